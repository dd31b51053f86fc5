/-Part 7 of the proof of balanceSticksCard_holds:MdF,MdG,MdH ... No condition. -/
import Derived.Test.YtgboehkdijjnkaaGreatDoorBy1
import Derived.Test.YtgboehkdijjnkaaGreatDoorBy2
import Derived.Test.YtgboehkdijjnkaaGreatDoorBy3
import Derived.Test.YtgboehkdijjnkaaGreatDoorBy4
import Derived.Test.YtgboehkdijjnkaaGreatDoorBy5
import Derived.Test.YtgboehkdijjnkaaGreatDoorBy6
set_option maxRecDepth 100000
set_option maxRecDepth 100000
namespace Go.Proofs.YtgboehkdijjnkaaGreatDoor
open Go.RowKit
open Go.BinOp (eql neq)
open _root_.Function (comp)
open _root_.Int (tmod)
open Go.IntKind (i64 u64 wrap)
open _root_.List (append_assoc append_nil cons_append ext_getElem? find?_some getElem?_append_left getElem?_eq_getElem getElem?_eq_none getElem?_map getElem?_range getElem?_take getElem_mem length length_append length_cons length_map length_nil length_range map_append map_cons map_map map_nil map_take mem_cons mem_iff_getElem? mem_map mem_of_getElem? mem_range mem_singleton nil_append nodup_append nodup_nil nodup_range not_mem_nil take_left')
open _root_.Nat (le_refl lt_irrefl lt_or_ge zero_le)
open _root_.Option (getD_some map_some)
open _root_.Prod (fst snd)
open Go.Proofs.Tryz (prog)
section
open Go.RowKit Go.Maps Go.Sort
section
variable {O:Nat→VO}{rg l:VO}{lk:Value→Option TV}{es:Es}{ck:Nat}{now came went:Int}{x:Nat→VO}{y:List VO}{m:Nat}
def fz (O:Nat→VO)(rg:VO)(lk:Value→Option TV)(es:Es)(ck:Nat)(now came went:Int)(x:Nat→VO)(m:Nat):VT:=⟨cj O rg lk es ck now came went++(List.range m).map x,[]⟩
theorem pR:(fz O rg lk es ck now came went x m).objs.length=16+m:=by simp only [fz,length_append,bB,length_map,length_range]
theorem tJ (hm:m≤101)(hx:∀i,m≤i→x i=.gone):(fz O rg lk es ck now came went x m).pad (101-m)=fy O rg lk es ck now came went x []:=by
 simp only [VT.pad,fz,fy,append_nil,append_assoc]
 congr 2
 apply ext_getElem?
 intro i
 rcases lt_or_ge i m with h | h
 ·rw [getElem?_append_left (by simpa using h),nh x i (by omega),getElem?_map,getElem?_range h];rfl
 ·rw [List.getElem?_append_right (by simpa using h),List.getElem?_replicate]
  simp only [length_map,length_range]
  rcases lt_or_ge i 101 with h2 | h2
  ·rw [nh x i h2,if_pos (by omega),hx i h]
  ·rw [getElem?_eq_none (by rw [cE];exact h2),if_neg (by omega)]
theorem kN (hm:m≤101):(fy O rg lk es ck now came went x y).objs.take (16+m)=cj O rg lk es ck now came went++(List.range m).map x:=by
 simp only [fy]
 rw [List.take_append,List.take_of_length_le (by rw [bB];omega),bB,show 16+m-16=m by omega,List.take_append,cE,show m-101=0 by omega,List.take_zero,append_nil]
 congr 1
 unfold aB
 rw [←map_take,List.take_range,Nat.min_eq_left hm]
theorem r9 (h:FlS m rg lk es x)(hO:fR O):(fy O rg lk es ck now came went x y).give (List.range (16+m)) []=fz O rg lk es ck now came went x m:=by
 have hm:=h.hn
 have hf:∀j,j<16+m→aj (List.range (16+m)) j=some j:=λj hj=>by
  have:=iK hj []
  rwa [append_nil] at this
 have e:=ni (ck:=ck) (now:=now) (came:=came) (went:=went) h hO (aj (List.range (16+m))) (aj []) hf
 have e2:=congrArg (List.take (16+m)) e
 rw [←map_take] at e2
 have e3:=kN (O:=O) (rg:=rg) (lk:=lk) (es:=es) (ck:=ck) (now:=now) (came:=came) (went:=went) (x:=x) (y:= []) hm
 simp only [fy,append_nil] at e3
 rw [e3] at e2
 simp only [VT.give,fz,map_nil]
 congr 1
 rw [mm (VO.ren (aj (List.range (16+m))) (aj [])) .gone (16+m) _ (by rw [ed];omega),kN hm]
 exact e2
theorem oa {T:VT}(hT:T.objs.length=16+m)(ht:T.tails= [])(hm:m≤101):tD T (fy O rg lk es ck now came went x y) (List.range (16+m)) []:=by
 refine ⟨nodup_range,nodup_nil,λi hi=> ?_,by simp,λj hj=> ?_,λj hj=> ?_⟩
 ·have:=mem_range.1 hi
  rw [ed];omega
 ·rw [hT] at hj;exact getElem?_range hj
 ·rw [ht] at hj;exact absurd hj (Nat.not_lt_zero j)
structure mo (m:Nat) (rg:VO) (lk:Value→Option TV) (es:Es) (x:Nat→VO) (l:VO):Prop where
 map:Ju m 121 lk es
 rest:∀i,m≤i→x i=.gone
 ring:fe (λq=>bU m q∨q=121) (fy (λ_=>.gone) rg (λ_=>none) [] 0 0 0 0 x [.gone,.gone,.gone,.gone,l])
theorem wc (hm:m<101)(h:mo m rg lk es x l)(hO:fR O)(b0 b1 b2 b3:VO):∃rg1 lk1 es1 x1,FlS (m+1) rg1 lk1 es1 x1∧
  (fy O rg lk es ck now came went x [b0,b1,b2,b3,l]).give (List.range (16+m)++ [121]) []=fz O rg1 lk1 es1 ck now came went x1 (m+1)∧(∀k,lk k=some (.ptr 121 0)→lk1 k=some (.ptr (16+m) 0))∧∃F G,x1 m=l.ren F G:=by
 let f:=aj (List.range (16+m)++ [121])
 let g:=aj []
 have hf:∀j,j<16+m→f j=some j:=λj hj=>iK hj [121]
 have hf2:f 121=some (16+m):=Dw (by omega)
 have hp:∀q,(bU m q∨q=121)→∃q',f q=some q'∧bU (m+1) q':=λq hq=>by
  rcases hq with hq | rfl
  ·exact ⟨q,hf q (by unfold bU at hq;omega),by unfold bU at hq ⊢;omega⟩
  ·exact ⟨_,hf2,by unfold bU;omega⟩
 have hl:∀q,(bU m q∨q=121)→∃e a c,(fy (λ_=>.gone) rg (λ_=>none) [] 0 0 0 0 x [.gone,.gone,.gone,.gone,l]).objs[q]?=some (cK e a c)∧∃a' c',VO.ren f g (cK e a c)=cK e a' c'∧bU (m+1) a'∧bU (m+1) c':=λq hq=>by
  obtain ⟨e,a,c,h1,h2,h3⟩:=h.ring q hq
  obtain ⟨a',ha,ha'⟩:=hp a h2
  obtain ⟨c',hc,hc'⟩:=hp c h3
  refine ⟨e,a,c,h1,a',c',?_,ha',hc'⟩
  simp only [cK,de,aO,i5,au,bQ,VO.ren,av,cons_append,nil_append,TV.ren,ha,hc]
 refine ⟨rg.ren f g,λk=>(lk k).map (TV.ren f g),es.map λe=>(e.1,e.2.1.ren f g,e.2.2),λi=>if i<m then (x i).ren f g else if i=m then l.ren f g else .gone,?_,?_,λk hk=>by simp only [hk,map_some,TV.ren,hf2],f,g,by simp only [if_neg (lt_irrefl m),if_true]⟩
 ·refine {hn:=by omega,ring:=λq hq=> ?_,none:=λi hi=> ?_,map:=λk v hv=> ?_,ents:=λa ha=> ?_}
  ·rcases hq with rfl | ⟨h1,h2⟩
   ·obtain ⟨e,a,c,q1,a',c',q2,q3,q4⟩:=hl 4 (.inl (.inl rfl))
    rw [fW (by decide)] at q1
    have e1:rg=cK e a c:=by simpa [cj] using q1
    refine ⟨e,a',c',?_,q3,q4⟩
    unfold lx
    rw [fW (by decide),←q2,←e1];rfl
   ·obtain ⟨i,rfl⟩:∃i,q=16+i:=⟨q-16,by omega⟩
    by_cases hi:i<m
    ·obtain ⟨e,a,c,q1,a',c',q2,q3,q4⟩:=hl (16+i) (.inl (.inr ⟨by omega,by omega⟩))
     rw [gC (by omega)] at q1
     injection q1 with q1
     refine ⟨e,a',c',?_,q3,q4⟩
     unfold lx
     rw [gC (by omega),if_pos hi,q1,q2]
    ·have him:i=m:=by omega
     subst him
     obtain ⟨e,a,c,q1,a',c',q2,q3,q4⟩:=hl 121 (.inr rfl)
     rw [show (121:Nat)=117+4 from rfl,fX] at q1
     have e1:l=cK e a c:=by simpa using q1
     refine ⟨e,a',c',?_,q3,q4⟩
     unfold lx
     rw [gC (by omega),if_neg (lt_irrefl _),if_pos rfl,e1,q2]
  ·rw [if_neg (by omega),if_neg (by omega)]
  ·cases hk:lk k with
   |none=>simp only [hk,Option.map_none] at hv;cases hv
   |some u=>
    obtain ⟨p,hp',rfl⟩:=h.map.map k u hk
    simp only [hk,map_some] at hv
    injection hv with hv
    rcases hp' with ⟨i,hi,rfl⟩ | rfl
    ·exact ⟨i,by omega,by rw [←hv];simp only [TV.ren,hf (16+i) (by omega)]⟩
    ·exact ⟨m,by omega,by rw [←hv];simp only [TV.ren,hf2]⟩
  ·obtain ⟨a0,ha0,rfl⟩:=mem_map.1 ha
   obtain ⟨p,hp',e1⟩:=h.map.ents a0 ha0
   rcases hp' with ⟨i,hi,rfl⟩ | rfl
   ·exact ⟨i,by omega,by simp only [e1,TV.ren,hf (16+i) (by omega)]⟩
   ·exact ⟨m,by omega,by simp only [e1,TV.ren,hf2]⟩
 ·simp only [VT.give,fz,map_nil]
  congr 1
  have h16:∀j,j<16→f j=some j:=λj hj=>hf j (by omega)
  have o':=λi (hi:i<16)=>hO i hi f g h16
  have hA:(cj O rg lk es ck now came went).map (VO.ren f g)=cj O (rg.ren f g) (λk=>(lk k).map (TV.ren f g)) (es.map λe=>(e.1,e.2.1.ren f g,e.2.2)) ck now came went:=by
   simp only [cj,map_cons,map_nil,o' 0 (by decide),o' 1 (by decide),o' 2 (by decide),o' 3 (by decide),o' 7 (by decide),o' 8 (by decide),o' 9 (by decide),o' 10 (by decide),o' 11 (by decide),o' 12 (by decide),o' 13 (by decide),o' 14 (by decide),o' 15 (by decide)]
   simp only [VO.ren,ml,av,TV.ren,h16 5 (by decide),h16 4 (by decide)]
  rw [map_append,mm (VO.ren f g) .gone (16+m) _ (by rw [ed];omega),kN (by omega),map_append,hA]
  simp only [map_cons,map_nil]
  rw [show (fy O rg lk es ck now came went x [b0,b1,b2,b3,l]).objs[121]?=some l by rw [show (121:Nat)=117+4 from rfl,fX];rfl,append_assoc,List.range_succ,map_append]
  congr 1
  congr 1
  ·rw [map_map]
   refine List.map_congr_left λi hi=> ?_
   have:=mem_range.1 hi
   simp only [comp,if_pos this]
  ·simp only [map_cons,map_nil,if_neg (lt_irrefl m),getD_some,if_true]
   rfl
theorem zj {T:VT}(hT:T.objs.length=16+m)(ht:T.tails= [])(hm:m<101)(b0 b1 b2 b3 l:VO):tD T (fy O rg lk es ck now came went x [b0,b1,b2,b3,l]) (List.range (16+m)++ [121]) []:=by
 refine ⟨nodup_append.2 ⟨nodup_range,by simp,λa ha b hb e=> ?_⟩,nodup_nil,λi hi=> ?_,by simp,λj hj=> ?_,λj hj=> ?_⟩
 ·have:=mem_range.1 ha
  rw [mem_singleton.1 hb] at e;omega
 ·rw [ed]
  rcases List.mem_append.1 hi with hi | hi
  ·have:=mem_range.1 hi;omega
  ·rw [mem_singleton.1 hi];simp
 ·rw [hT] at hj
  rw [getElem?_append_left (by simpa using hj)]
  exact getElem?_range hj
 ·rw [ht] at hj;exact absurd hj (Nat.not_lt_zero j)
end
end
set_option maxRecDepth 100000
section
open Go.RowKit Go.Maps Go.Sort
section
variable {o O:Nat→VO}{rg:VO}{lk:Value→Option TV}{es:Es}{ck:Nat}{now came went:Int}{x:Nat→VO}{m:Nat}{w:Wd}
theorem GB (ck:Nat)(now came went:Int)(h:FlS m rg lk es x)(hO:fR O)(f:Fl)(b:Int):∀ro ys T K,fU O (.cells (au f)) f b (λT=>T=fy O rg lk es ck now came went x [.cells (au f)]) (FlS m) (mo m) ro ys T K→VCx prog ae ro pG ys T K:=by
 rintro ro ys T K ⟨⟨rfl,rfl,rfl⟩,hk1,hk2⟩
 have hz:r6 [VO.cells (au f)]:=λz hz _ _=>by rw [mem_singleton.1 hz];rfl
 cases hl:lk (da f) with
 |some v=>
  obtain ⟨i,hi,rfl⟩:=h.map _ v hl
  obtain ⟨rg3,x3,now3,h3,_,hv⟩:=Af (ck:=ck) (now:=now) (came:=came) (went:=went) (b:=b) (m:=0) h hO hz hi hl
  refine hv.mono ?_
  rintro r T' ⟨⟨en,q,rfl⟩,rfl⟩
  exact hk1 en q rg3 lk es ck now3 came went x3 h3
 |none=>
  obtain ⟨rg3,lk3,es3,ck3,now3,came3,went3,x3,l,b1,b2,b3,hmap,hg,_,hr,_,hv⟩:=yJ (ck:=ck) (now:=now) (came:=came) (went:=went) (b:=b) (m:=0) h hO hz hl
  refine hv.mono ?_
  rintro r T' ⟨⟨en,q,rfl⟩,rfl⟩
  refine hk2 en q rg3 lk3 es3 ck3 now3 came3 went3 x3 b1 b2 b3 l ⟨hmap,hg,lz hr λq hq=> ?_⟩
  rcases hq with hq | rfl
  ·exact rZ h.hn hq
  ·rw [show (121:Nat)=117+4 from rfl,fX,fX];rfl
theorem Fv {x i:Operand}{l:List (Nat × TV)}{L:List (List TV)}{tok:Tok}{k:IntKind}{z:Int}{a:List TV}(hx:aq ae l x=.vec 5 L tok)(hz:aq ae l i=.val (.int k z))(h0:0≤z)(he:L[z.toNat]?=some a):aJ prog ae (.indexAddr 26 x i) l (.elt a):=by
 obtain ⟨inf,i1,i2⟩:=DA
 exact n9 Tryz.underlying26 i1 i2 hx hz h0 he
theorem yU (l:List Fl)(f g:Nat→Option Nat):bL f g (l.map au)=l.map au:=ez au (λ_ _ _=>rfl) f g l
structure LpC where
 j:Nat
 m:Nat
 rg:VO
 lk:Value→Option TV
 es:Es
 ck:Nat
 now:Int
 came:Int
 went:Int
 x:Nat→VO
 u:VO
def LpC.T (s:LpC)(o:Nat→VO)(w:Wd)(n:Int)(pm sm rm q r:VO):VT:=fz (fk o w n pm sm rm s.u q r) s.rg s.lk s.es s.ck s.now s.came s.went s.x s.m
theorem jV {m i:Nat}(h:i<m):aj (List.range m) i=some i:=by
 have:=iK h []
 rwa [append_nil] at this
theorem HF (ho:uS o)(hw:pP w)(n:Int):∀T,(∃pm q u r sm rm,PiD pm∧QiD n q∧UiD u∧RiD r∧SiD sm rm∧T=i7 o w n pm sm rm u q r)→∀K:KX,(∀(rg u:VO) (lk:Value→Option TV) (es:Es) (ck:Nat) (now came went:Int) (x:Nat→VO),(∃m,m≤100∧FlS m rg lk es x)→UiD u→K .normal (ay 169 rl (mV 5 w.F w.F.length)) (JE T rg (.map kF lk es ck) (ml now came went) u x) [])→VWx prog ae none 0 (ax prog eR 4) (ay 169 rl (mV 5 w.F 0)) T [] K:=by
 rintro T ⟨pm,q,u,r,sm,rm,hp,hq,hu,hr,hs,rfl⟩ K hK
 obtain ⟨lF,hF,hlF⟩:=hw.F
 obtain ⟨lW,hW⟩:=hw.W
 have hlen:w.F.length=lF.length:=by rw [hF,length_map]
 have hfix:∀u,UiD u→fR (fk o w n pm sm rm u q r):=λu hu=>tH ho hw hp.ren hs.ren1 hs.ren2 hu.ren hq.ren hr.ren
 refine VWx.padQ ?_
 refine fv (ι:=LpC) (f:=eR) (id:=4) (by kernel_rfl) 169 rl (λs=>lF.length-s.j) (λs=>mV 5 w.F s.j) (λs=>s.T o w n pm sm rm q r) (λs=>s.j≤lF.length∧s.m≤s.j∧FlS s.m s.rg s.lk s.es s.x∧UiD s.u) 117 0 (λs h=>⟨by unfold LpC.T;rw [pR];have:=h.2.2.1.hn;omega,le_refl _⟩)
  (λe vs T=>e=.normal∧vs=mV 5 w.F w.F.length∧∃s:LpC,s.m≤100∧FlS s.m s.rg s.lk s.es s.x∧UiD s.u∧T=s.T o w n pm sm rm q r) (λs hs'=> ?_) ⟨0,0,Al,λ_=>none,[],0,0,0,0,λ_=>.gone,u⟩ ⟨zero_le _,le_refl _,LW,hu⟩ _ (λe vs T hq'=> ?_)
 ·obtain ⟨j,m,rg,lk,es,ck,now,came,went,x,u⟩:=s
  obtain ⟨hj,hmj,hf,hu⟩:=hs'
  simp only at hj hmj hf hu
  have hO:=hfix u hu
  have hm:=hf.hn
  have hT0:(LpC.T ⟨j,m,rg,lk,es,ck,now,came,went,x,u⟩ o w n pm sm rm q r).objs.length=16+m:=pR
  have r16:∀k,0<16+k:=λk=>by omega
  have nm:∀l:List Nat,aj (List.range (16+m)++l) 2=some 2∧aj (List.range (16+m)++l) 3=some 3∧aj (List.range (16+m)++l) 15=some 15:=λl=>⟨iK (by omega) l,iK (by omega) l,iK (by omega) l⟩
  have nm0:aj (List.range (16+m)) 2=some 2∧aj (List.range (16+m)) 3=some 3∧aj (List.range (16+m)) 15=some 15:=⟨jV (by omega),jV (by omega),jV (by omega)⟩
  let LQ:=qt 169 4 (λs:LpC=>lF.length-s.j) (λs=>mV 5 w.F s.j) (λs=>s.T o w n pm sm rm q r) (λs=>s.j≤lF.length∧s.m≤s.j∧FlS s.m s.rg s.lk s.es s.x∧UiD s.u) 117 0 ⟨j,m,rg,lk,es,ck,now,came,went,x,u⟩ (λe vs T=>e=.normal∧vs=mV 5 w.F w.F.length∧∃s:LpC,s.m≤100∧FlS s.m s.rg s.lk s.es s.x∧UiD s.u∧T=s.T o w n pm sm rm q r)
  let T0:=LpC.T ⟨j,m,rg,lk,es,ck,now,came,went,x,u⟩ o w n pm sm rm q r
  let Q2:Exit→List TV→VT→List Nat→Nat→Prop:=λe vs T D k=>D= []∧∃is ks:List Nat,tD T0 T is ks∧LQ e (av (aj is) (aj ks) vs) (T.give is ks) [] k
  refine VWx.pickT (VWx.pad (101-m) (VWx.mono (Q:=dm rl Q2) ?_ ?_))
  ·have hpad:VT.pad T0 (101-m)=fy (fk o w n pm sm rm u q r) rg lk es ck now came went x []:=tJ hm hf.none
   show VWx prog ae none 0 (dj prog eR 4) (ay 169 rl (mV 5 w.F j)) (VT.pad T0 (101-m)) [] (dm rl Q2)
   rw [hpad]
   by_cases hlt:j<lF.length
   ·obtain ⟨f,hb⟩:∃b,lF[j]?=some b:=⟨_,getElem?_eq_getElem hlt⟩
    have hb':w.F[j]?=some (au f):=by rw [hF,getElem?_map,hb];rfl
    have hwr:=fV j (by omega)
    have hC:∀b,aQ prog ae (az [(pG,fU (fk o w n pm sm rm u q r) (.cells (au f)) f b (λT=>T=fy (fk o w n pm sm rm u q r) rg lk es ck now came went x [.cells (au f)]) (FlS m) (mo m)),(yx,uU UiD)]):=λb=>aE λp hp=>by
     simp only [mem_cons,not_mem_nil,or_false] at hp
     rcases hp with rfl | rfl
     ·exact GB ck now came went hf hO f b
     ·exact GA
    have fin1:∀rg lk es ck now came went x u y,FlS m rg lk es x→UiD u→Q2 .normal (mV 5 w.F (wrap i64 ((j:Int)+1))) (fy (fk o w n pm sm rm u q r) rg lk es ck now came went x y) [] 169:=λrg lk es ck now came went x u y hf hu=>by
     refine ⟨rfl,List.range (16+m),[],oa hT0 rfl hm,rfl,rfl,⟨j+1,m,rg,lk,es,ck,now,came,went,x,u⟩,⟨hlt,by simp only;omega,hf,hu⟩,by simp only;omega,.inl ⟨r9 hf (hfix u hu),?_⟩⟩
     rw [hwr,hF]
     exact pQ (yU lF) _ _ nm0 _
    have fin2:∀rg lk es ck now came went x u l b0 b1 b2 b3,mo m rg lk es x l→UiD u→Q2 .normal (mV 5 w.F (wrap i64 ((j:Int)+1))) (fy (fk o w n pm sm rm u q r) rg lk es ck now came went x [b0,b1,b2,b3,l]) [] 169:=λrg lk es ck now came went x u l b0 b1 b2 b3 hf hu=>by
     have hm1:m<101:=by omega
     obtain ⟨rg1,lk1,es1,x1,h1,e1,_⟩:=wc (ck:=ck) (now:=now) (came:=came) (went:=went) hm1 hf (hfix u hu) b0 b1 b2 b3
     refine ⟨rfl,List.range (16+m)++ [121],[],zj hT0 rfl hm1 _ _ _ _ _,rfl,rfl,⟨j+1,m+1,rg1,lk1,es1,ck,now,came,went,x1,u⟩,⟨hlt,by simp only;omega,h1,hu⟩,by simp only;omega,.inl ⟨e1,?_⟩⟩
     rw [hwr,hF]
     exact pQ (yU lF) _ _ (nm _) _
    obtain ⟨b,hb1⟩:∃b:Int,j<w.W.length→w.W[j]?=some [.val (.int .i64 b)]:=by
     by_cases h:j<lW.length
     ·exact ⟨lW[j],λ_=>by rw [hW,getElem?_map,getElem?_eq_getElem h];rfl⟩
     ·exact ⟨0,λh2=>by rw [hW,length_map] at h2;exact absurd h2 h⟩
    have hW1:decide ((j:Int)<(w.W.length:Int))=true→w.W[((j:Int)).toNat]?=some [.val (.int .i64 b)]:=λh=>by rw [Int.toNat_natCast];exact hb1 (by simpa using h)
    refine cn ah ag (hC b) ak (Gx o rg lk es ck now came went x w n pm sm rm u q r UiD f b _ (FlS m) (mo m) j _) ?_
    refine aZ (decide_eq_true (by rw [hlen];omega)) ⟨Fv rfl rfl (Int.natCast_nonneg _) (by rw [Int.toNat_natCast];exact hb'),?_⟩
    refine aL (λhh=>⟨ir rfl rfl (Int.natCast_nonneg _) (hW1 hh),⟨rfl,rfl,rfl⟩,λen q2 rg2 lk2 es2 ck2 now2 came2 went2 x2 h2=>⟨ir rfl rfl (Int.natCast_nonneg _) (hW1 hh),⟨rfl,hu⟩,λe3 q3 u3 hu3=>fin1 _ _ _ _ _ _ _ _ _ _ h2 hu3⟩,λen q2 rg2 lk2 es2 ck2 now2 came2 went2 x2 b1 b2 b3 l h2=>⟨ir rfl rfl (Int.natCast_nonneg _) (hW1 hh),⟨rfl,hu⟩,λe3 q3 u3 hu3=>fin2 _ _ _ _ _ _ _ _ _ _ _ _ _ _ h2 hu3⟩⟩) (λ_=>fin1 _ _ _ _ _ _ _ _ _ _ hf hu)
   ·obtain rfl:j=lF.length:=by omega
    have hC:aQ prog ae (az [(pG,fU (fk o w n pm sm rm u q r) (.cells (au (0,0,0,0,0))) (0,0,0,0,0) 0 (λT=>T=fy (fk o w n pm sm rm u q r) rg lk es ck now came went x [.cells (au (0,0,0,0,0))]) (FlS m) (mo m)),(yx,uU UiD)]):=aE λp hp=>by
     simp only [mem_cons,not_mem_nil,or_false] at hp
     rcases hp with rfl | rfl
     ·exact GB ck now came went hf hO (0,0,0,0,0) 0
     ·exact GA
    have fin0:Q2 (.exit 4) (mV 5 w.F lF.length) (fy (fk o w n pm sm rm u q r) rg lk es ck now came went x []) [] 169:=by
     refine ⟨rfl,List.range (16+m),[],oa hT0 rfl hm,rfl,rfl,rfl,?_,⟨lF.length,m,rg,lk,es,ck,now,came,went,x,u⟩,(by simp only;omega),hf,hu,r9 hf hO⟩
     rw [hlen,hF]
     exact pQ (yU lF) _ _ nm0 _
    refine cn ah ag hC ak (Gx o rg lk es ck now came went x w n pm sm rm u q r UiD (0,0,0,0,0) 0 _ (FlS m) (mo m) lF.length _) ?_
    exact aA (decide_eq_false (by rw [hlen];omega)) fin0
  ·rintro e σ T D ⟨rfl,is,ks,hp,hq⟩
   exact ⟨rfl,is,ks,hp,(Dx _ _ _ _ _).2 hq⟩
 ·obtain ⟨rfl,rfl,s,hm1,hf,hu,rfl⟩:=hq'
  refine ⟨101-s.m,?_⟩
  have hpad:VT.pad (s.T o w n pm sm rm q r) (101-s.m)=fy (fk o w n pm sm rm s.u q r) s.rg s.lk s.es s.ck s.now s.came s.went s.x []:=tJ hf.hn hf.none
  rw [hpad]
  exact hK s.rg s.u s.lk s.es s.ck s.now s.came s.went s.x ⟨s.m,hm1,hf⟩ hu
end
end
set_option maxRecDepth 100000
section
open Go.RowKit Go.Maps Go.Sort
theorem BV {P:Program}{G:aD}{t t2:TypeId}{x:Nat}{a r:Int}(hu:P.underlying t=some (.int .i64))(hr:i64.wrap (1+a)=r):aJ P G (.binOp .add t (.const (.int .i64 1)) (.tmp x) t2) [(x,.val (.int .i64 a))] (.val (.int .i64 r)):=by
 subst hr
 refine ⟨?_⟩
 simp [aR,aq,dU,FH,AW,tP,bM,eqGuard,binOp,hu,AG]
 rfl
def An (pc:Int):Int:=wrap i64 (tmod (wrap u64 pc) (100:Int))
theorem JI (pc:Int):0≤An pc∧An pc≤99:=by
 have h1:0≤u64.wrap pc:=by
  simp only [wrap,IntKind.bits,IntKind.signed]
  exact Int.emod_nonneg _ (by decide)
 have h2:0≤tmod (u64.wrap pc) 100:=Int.tmod_nonneg _ h1
 have h3:tmod (u64.wrap pc) 100<100:=Int.tmod_lt_of_pos _ (by decide)
 unfold An
 rw [kM (by omega) (by omega)]
 omega
theorem Li {n:Int}(h1:1≤n)(h2:n≤100):∀ro ys T K,uR n (DT n) 1 ro ys T K→VCx prog ae ro DR ys T K:=by
 rintro ro ys T K ⟨⟨rfl,rfl⟩,hk⟩
 have hv:VCx prog ae 0 DR [.val (.int .i64 n)] ⟨[],[]⟩ λx T'=>x=.ptr 1 0∧T'=⟨[dc,.cells [.val (.int .i64 n),.map 0]],[]⟩:=
  ap ah ag aw ak (K9 n _) (aA (decide_eq_false (by omega)) (aA (decide_eq_false (by omega)) ⟨rfl,rfl⟩))
 refine (VCx.lift [] [] bg nodup_nil nodup_nil (λk hk=>by simp at hk) (by simp) (λi hi=>by simp at hi) rfl hv (λx T' hq=>⟨zero_le _,zero_le _⟩)).mono ?_
 rintro x T' ⟨y,T2,⟨rfl,rfl⟩,rfl,rfl⟩
 have e:VT.back T [] [] ⟨[dc,.cells [.val (.int .i64 n),.map 0]],[]⟩={T with objs:=T.objs++DT n T.objs.length}:=by
  simp [VT.back,aT,VO.ren,dc,av,TV.ren,an,DT]
 have e2:TV.ren (an T.objs.length []) (an T.tails.length []) (.ptr 1 0)=.ptr (T.objs.length+1) 0:=by simp [TV.ren,an]
 rw [e,e2];exact hk
theorem Lj {n:Int}(h1:1≤n)(h2:n≤100):∀ro ys T K,uR n (DU n) 0 ro ys T K→VCx prog ae ro DS ys T K:=by
 rintro ro ys T K ⟨⟨rfl,rfl⟩,hk⟩
 have hv:VCx prog ae 0 DS [.val (.int .i64 n)] ⟨[],[]⟩ λx T'=>x=.ptr 0 0∧T'=⟨[.cells [.val (.int .i64 n),nZ]],[]⟩:=
  ap ah ag aw ak (La n _) (aA (decide_eq_false (by omega)) (aA (decide_eq_false (by omega)) ⟨rfl,rfl⟩))
 refine (VCx.lift [] [] bg nodup_nil nodup_nil (λk hk=>by simp at hk) (by simp) (λi hi=>by simp at hi) rfl hv (λx T' hq=>⟨zero_le _,zero_le _⟩)).mono ?_
 rintro x T' ⟨y,T2,⟨rfl,rfl⟩,rfl,rfl⟩
 have e:VT.back T [] [] ⟨[.cells [.val (.int .i64 n),nZ]],[]⟩={T with objs:=T.objs++DU n T.objs.length}:=by
  simp [VT.back,aT,VO.ren,nZ,av,TV.ren,DU]
 have e2:TV.ren (an T.objs.length []) (an T.tails.length []) (.ptr 0 0)=.ptr (T.objs.length+0) 0:=by simp [TV.ren,an]
 rw [e,e2];exact hk
def yV (o:Nat→VO)(w:Wd)(n:Int)(pm sm rm u q r:VO):Nat→VO:=λi=>match i with
 | 3=>bO
 |i=>fk o w n pm sm rm u q r i
def LX:TV:=.agg [.ptr 6 0,.ptr 8 0,.ptr 11 0,.ptr 12 0,.ptr 13 0,.ptr 14 0]
theorem HG {o:Nat→VO}{w:Wd}{n:Int}{pm sm rm u q r:VO}(h:fR (fk o w n pm sm rm u q r)):fR (yV o w n pm sm rm u q r):=by
 intro i hi f g h16
 by_cases h3:i=3
 ·subst h3
  exact h 15 (by decide) f g h16
 ·have e:yV o w n pm sm rm u q r i=fk o w n pm sm rm u q r i:=by
   unfold yV
   split
   ·exact absurd rfl h3
   ·rfl
  rw [e]
  exact h i hi f g h16
structure Mm (o:Nat→VO) (w:Wd) (T:VT) (n:Int) (pm sm rm u q r rg:VO) (lk:Value→Option TV) (es:Es) (ck:Nat) (now came went:Int) (x:Nat→VO) (m:Nat):Prop where
 n1:1≤n
 n2:n≤100
 m1:m≤100
 hp:PiD pm
 hq:QiD n q
 hu:UiD u
 hr:RiD r
 hs:SiD sm rm
 hf:FlS m rg lk es x
 hT:T=fy (yV o w n pm sm rm u q r) rg lk es ck now came went x []
theorem JJ {o:Nat→VO}{w:Wd}(ho:uS o)(hw:pP w):VCx prog ae 0 eR [.agg w.cells] ⟨[o 0,o 1],[]⟩ λv T=>v=LX∧∃n pm sm rm u q r rg lk es ck now came went x m,Mm o w T n pm sm rm u q r rg lk es ck now came went x m:=by
 obtain ⟨p0,p1⟩:=JI w.pc
 have hn:∃n:Int,n=1+An w.pc:=⟨_,rfl⟩
 obtain ⟨n,hn⟩:=hn
 have h1:1≤n:=by omega
 have h2:n≤100:=by omega
 have hC:aQ prog ae (az [(DR,uR n (DT n) 1),(DS,uR n (DU n) 0)]):=aE λp hp=>by
  simp only [mem_cons,not_mem_nil,or_false] at hp
  rcases hp with rfl | rfl
  ·exact Li h1 h2
  ·exact Lj h1 h2
 let P0:VT→Prop:=λT=>T=i7 o w n dc dc dc JB (.cells [.val (.int .i64 n),nZ]) (.cells [nZ])
 let P2:VT→Prop:=λT=>∃pm q u r,PiD pm∧QiD n q∧UiD u∧RiD r∧T=i7 o w n pm dc dc u q r
 let P4:VT→Prop:=λT=>∃pm q u r sm rm,PiD pm∧QiD n q∧UiD u∧RiD r∧SiD sm rm∧T=i7 o w n pm sm rm u q r
 have hL:ek prog ae (LV o w n PiD (QiD n) RiD UiD SiD (λrg lk es x=>∃m,m≤100∧FlS m rg lk es x) P0 P2 P4 (ax prog eR 0) (ax prog eR 2) (ax prog eR 4)):=cq λp hp=>by
  simp only [mem_cons,not_mem_nil,or_false] at hp
  rcases hp with rfl | rfl | rfl
  ·exact n8 λT hT K hK=>HD ho hw n T hT K hK
  ·exact n8 λT hT K hK=>HE ho hw n T hT K hK
  ·exact n8 λT hT K hK=>HF ho hw n T hT K λrg u lk es ck now came went x hx hu=>hK rg u lk es ck now came went x hx hu
 refine ap ah ag hC hL (K8 o w n PiD (QiD n) RiD UiD SiD _ P0 P2 P4 _) ?_
 refine ⟨BV Tryz.underlying3 (by rw [hn];exact kM (by have:=p0;unfold An at this;omega) (by have:=p1;unfold An at this;omega)),⟨rfl,rfl⟩,⟨rfl,rfl⟩,rfl,⟨rfl,rfl,rfl,rfl,rfl,rfl⟩,λpm q u r hp hq hu hr=>⟨rfl,⟨rfl,rfl,rfl,rfl,rfl,pm,q,u,r,hp,hq,hu,hr,rfl⟩,λsm rm r2 hs hr2=>⟨rfl,⟨rfl,rfl,rfl,rfl,rfl,pm,q,u,r2,sm,rm,hp,hq,hu,hr2,hs,rfl⟩,λrg u2 lk es ck now came went x hx hu2=> ?_⟩⟩⟩
 obtain ⟨m,hm,hx⟩:=hx
 exact ⟨rfl,n,pm,sm,rm,u2,q,r2,rg,lk,es,ck,now,came,went,x,m,h1,h2,hm,hp,hq,hu2,hr2,hs,hx,rfl⟩
end
abbrev JK:=8
abbrev GC:=37
abbrev GD:=38
abbrev GE:=40
abbrev JL:=6
abbrev DW:=5
def rT (a b:VO)(y:Nat→VO)(l:List VO):VT:=⟨a::b::(aB y++(y 101::y 102::y 103::y 104::y 105::y 106::y 107::y 108::y 109::y 110::y 111::y 112::y 113::y 114::l)),[]⟩
def fS (ys0:List TV)(x0:TV)(Pre:VT→Prop):ba:=λro ys T K=>(ro=0∧ys=ys0∧Pre T)∧K x0 T
def dO (k b s:Int)(n:Bool):List TV:= [.val (.int .i64 k),.val (.int .i64 b),.val (.int .i64 s),.val (.bool n)]
def ei (f:Fl)(now:Int)(tun:Bool)(l:List VO):List VO:=.cells [.ptr 6 0]:: .cells [.ptr 8 0]:: .cells [.ptr 11 0]:: .cells (au f):: .cells [.val (.int .i64 now)]:: .cells [.val (.bool tun)]:: .cells (dO 0 0 0 false):: .cells (dO 0 0 0 false)::l
def cW (v:Int × Int × Int × Bool):List TV:=dO v.1 v.2.1 v.2.2.1 v.2.2.2
def LY (cs:List TV)(a b:VO)(R:(Nat→VO)→Prop):ba:=λro ys T K=>(ro=0∧ys= [.agg cs]∧T=⟨[a,b],[]⟩)∧∀y:Nat→VO,R y→K LX (rT a b y [])
theorem JM (o:Nat→VO)(rg:VO)(lk:Value→Option TV)(es:Es)(ck:Nat)(now came went:Int)(x:Nat→VO)(p:Nat)(f:Fl)(en:En)(Q:TV→VT→Prop):aH prog ae cT (bp [(999998,.dead,none),(15,.ptr p 0,none),(24,.ptr p 0,none),(27,.agg (aO en),none)]) 300 bo 0 Du [.ptr 6 0,.agg (au f)] (fy o rg lk es ck now came went x []) Q=
 (cm prog (λ_=>.none) ⟨[(o (0:Nat)),(o (1:Nat)),(o (2:Nat)),(o (3:Nat)),(rg),(.map ⟨true,[(.int .i64),(.int .u32),(.int .u32),(.int .i64),(.int .i64)]⟩ (lk) (es) (ck)),(.cells [(.val (.int .i64 20)),(.val (.int .i64 100)),(.val (.int .i64 (now))),(.map 5),(.ptr 4 0),(.val (.int .i64 (came))),(.val (.int .i64 (went)))]),(o (7:Nat)),(o (8:Nat)),(o (9:Nat)),(o (10:Nat)),(o (11:Nat)),(o (12:Nat)),(o (13:Nat)),(o (14:Nat)),(o (15:Nat))]++(aB x++ [(.cells [(.val (.int .i64 (fst f))),(.val (.int .u32 (fst (snd f)))),(.val (.int .u32 (fst (snd (snd f))))),(.val (.int .i64 (fst (snd (snd (snd f)))))),(.val (.int .i64 (snd (snd (snd (snd f))))))]),(.cells [(.val (.int .i64 0)),(.val (.int .u32 0)),(.val (.int .u32 0)),(.val (.int .i64 0)),(.val (.int .i64 0)),(.val (.int .i64 0)),(.val (.int .i64 0))])]),[]⟩ false (.lookup 97 (.tmp 13) (.tmp 14) false) [(13,(.map 5)),(14,(cR (fst f) (fst (snd f)) (fst (snd (snd f))) (fst (snd (snd (snd f)))) (snd (snd (snd (snd f))))))] (cJ p)∧
 (cm prog (λ_=>.none) ⟨[(o (0:Nat)),(o (1:Nat)),(o (2:Nat)),(o (3:Nat)),(rg),(.map ⟨true,[(.int .i64),(.int .u32),(.int .u32),(.int .i64),(.int .i64)]⟩ (lk) (es) (ck)),(.cells [(.val (.int .i64 20)),(.val (.int .i64 100)),(.val (.int .i64 (now))),(.map 5),(.ptr 4 0),(.val (.int .i64 (came))),(.val (.int .i64 (went)))]),(o (7:Nat)),(o (8:Nat)),(o (9:Nat)),(o (10:Nat)),(o (11:Nat)),(o (12:Nat)),(o (13:Nat)),(o (14:Nat)),(o (15:Nat))]++(aB x++ [(.cells [(.val (.int .i64 (fst f))),(.val (.int .u32 (fst (snd f)))),(.val (.int .u32 (fst (snd (snd f))))),(.val (.int .i64 (fst (snd (snd (snd f)))))),(.val (.int .i64 (snd (snd (snd (snd f))))))]),(.cells [(.val (.int .i64 0)),(.val (.int .u32 0)),(.val (.int .u32 0)),(.val (.int .i64 0)),(.val (.int .i64 0)),(.val (.int .i64 0)),(.val (.int .i64 0))])]),[]⟩ false (.lookup 97 (.tmp 22) (.tmp 23) false) [(22,(.map 5)),(23,(cR (fst f) (fst (snd f)) (fst (snd (snd f))) (fst (snd (snd (snd f)))) (snd (snd (snd (snd f))))))] (cJ p)∧
 (cm prog (λ_=>.none) ⟨[(o (0:Nat)),(o (1:Nat)),(o (2:Nat)),(o (3:Nat)),(rg),(.map ⟨true,[(.int .i64),(.int .u32),(.int .u32),(.int .i64),(.int .i64)]⟩ (lk) (es) (ck)),(.cells [(.val (.int .i64 20)),(.val (.int .i64 100)),(.val (.int .i64 (now))),(.map 5),(.ptr 4 0),(.val (.int .i64 (came))),(.val (.int .i64 (went)))]),(o (7:Nat)),(o (8:Nat)),(o (9:Nat)),(o (10:Nat)),(o (11:Nat)),(o (12:Nat)),(o (13:Nat)),(o (14:Nat)),(o (15:Nat))]++(aB x++ [(.cells [(.val (.int .i64 (fst f))),(.val (.int .u32 (fst (snd f)))),(.val (.int .u32 (fst (snd (snd f))))),(.val (.int .i64 (fst (snd (snd (snd f)))))),(.val (.int .i64 (snd (snd (snd (snd f))))))]),(.cells [(.val (.int .i64 0)),(.val (.int .u32 0)),(.val (.int .u32 0)),(.val (.int .i64 0)),(.val (.int .i64 0)),(.val (.int .i64 0)),(.val (.int .i64 0))])]),[]⟩ false (.load 49 (.tmp 26)) [(26,(cJ p))] (xM (fst (fst en)) (fst (snd (fst en))) (fst (snd (snd (fst en)))) (fst (snd (snd (snd (fst en))))) (snd (snd (snd (snd (fst en))))) (fst (snd en)) (snd (snd en)))∧
 Q (.tup [(xM (fst (fst en)) (fst (snd (fst en))) (fst (snd (snd (fst en)))) (fst (snd (snd (snd (fst en))))) (snd (snd (snd (snd (fst en))))) (fst (snd en)) (snd (snd en))),ip]) ⟨[(o (0:Nat)),(o (1:Nat)),(o (2:Nat)),(o (3:Nat)),(rg),(.map ⟨true,[(.int .i64),(.int .u32),(.int .u32),(.int .i64),(.int .i64)]⟩ (lk) (es) (ck)),(.cells [(.val (.int .i64 20)),(.val (.int .i64 100)),(.val (.int .i64 (now))),(.map 5),(.ptr 4 0),(.val (.int .i64 (came))),(.val (.int .i64 (went)))]),(o (7:Nat)),(o (8:Nat)),(o (9:Nat)),(o (10:Nat)),(o (11:Nat)),(o (12:Nat)),(o (13:Nat)),(o (14:Nat)),(o (15:Nat))]++(aB x++ [(.cells [(.val (.int .i64 (fst f))),(.val (.int .u32 (fst (snd f)))),(.val (.int .u32 (fst (snd (snd f))))),(.val (.int .i64 (fst (snd (snd (snd f)))))),(.val (.int .i64 (snd (snd (snd (snd f))))))]),(.cells [(.val (.int .i64 (fst (fst en)))),(.val (.int .u32 (fst (snd (fst en))))),(.val (.int .u32 (fst (snd (snd (fst en)))))),(.val (.int .i64 (fst (snd (snd (snd (fst en))))))),(.val (.int .i64 (snd (snd (snd (snd (fst en))))))),(.val (.int .i64 (fst (snd en)))),(.val (.int .i64 (snd (snd en))))])]),[]⟩))):=by kernel_rfl
theorem JN (o:Nat→VO)(rg:VO)(lk:Value→Option TV)(es:Es)(ck:Nat)(now came went:Int)(x:Nat→VO)(f:Fl)(Q:TV→VT→Prop):aH prog ae cT (bp [(999998,.dead,none),(15,.val (.pointer none),none)]) 300 bo 0 Du [.ptr 6 0,.agg (au f)] (fy o rg lk es ck now came went x []) Q=
 (cm prog (λ_=>.none) ⟨[(o (0:Nat)),(o (1:Nat)),(o (2:Nat)),(o (3:Nat)),(rg),(.map ⟨true,[(.int .i64),(.int .u32),(.int .u32),(.int .i64),(.int .i64)]⟩ (lk) (es) (ck)),(.cells [(.val (.int .i64 20)),(.val (.int .i64 100)),(.val (.int .i64 (now))),(.map 5),(.ptr 4 0),(.val (.int .i64 (came))),(.val (.int .i64 (went)))]),(o (7:Nat)),(o (8:Nat)),(o (9:Nat)),(o (10:Nat)),(o (11:Nat)),(o (12:Nat)),(o (13:Nat)),(o (14:Nat)),(o (15:Nat))]++(aB x++ [(.cells [(.val (.int .i64 (fst f))),(.val (.int .u32 (fst (snd f)))),(.val (.int .u32 (fst (snd (snd f))))),(.val (.int .i64 (fst (snd (snd (snd f)))))),(.val (.int .i64 (snd (snd (snd (snd f))))))]),(.cells [(.val (.int .i64 0)),(.val (.int .u32 0)),(.val (.int .u32 0)),(.val (.int .i64 0)),(.val (.int .i64 0)),(.val (.int .i64 0)),(.val (.int .i64 0))])]),[]⟩ false (.lookup 97 (.tmp 13) (.tmp 14) false) [(13,(.map 5)),(14,(cR (fst f) (fst (snd f)) (fst (snd (snd f))) (fst (snd (snd (snd f)))) (snd (snd (snd (snd f))))))] (.val (.pointer .none))∧
 Q ET ⟨[(o (0:Nat)),(o (1:Nat)),(o (2:Nat)),(o (3:Nat)),(rg),(.map ⟨true,[(.int .i64),(.int .u32),(.int .u32),(.int .i64),(.int .i64)]⟩ (lk) (es) (ck)),(.cells [(.val (.int .i64 20)),(.val (.int .i64 100)),(.val (.int .i64 (now))),(.map 5),(.ptr 4 0),(.val (.int .i64 (came))),(.val (.int .i64 (went)))]),(o (7:Nat)),(o (8:Nat)),(o (9:Nat)),(o (10:Nat)),(o (11:Nat)),(o (12:Nat)),(o (13:Nat)),(o (14:Nat)),(o (15:Nat))]++(aB x++ [(.cells [(.val (.int .i64 (fst f))),(.val (.int .u32 (fst (snd f)))),(.val (.int .u32 (fst (snd (snd f))))),(.val (.int .i64 (fst (snd (snd (snd f)))))),(.val (.int .i64 (snd (snd (snd (snd f))))))]),(.cells [(.val (.int .i64 0)),(.val (.int .u32 0)),(.val (.int .u32 0)),(.val (.int .i64 0)),(.val (.int .i64 0)),(.val (.int .i64 0)),(.val (.int .i64 0))])]),[]⟩):=by kernel_rfl
theorem Lk (a b:VO)(y:Nat→VO)(f:Fl)(now:Int)(tun:Bool)(Pre:VT→Prop)(en:En)(k u:Bool)(Q:TV→VT→Prop):aH prog ae (az [(Du,fS [.ptr 6 0,.agg (au f)] (.tup [.agg (aO en),.val (.bool k)]) Pre),(CT,fS [.ptr 8 0,.val (.int .i64 en.2.1)] (fh u) Pre)]) (bp [(999998,.dead,none)]) 300 bo 0 GC [.ptr 117 0,.ptr 120 0,.ptr 118 0] (rT a b y (ei f now tun [])) Q=
 (((@Eq (Nat) 0 0)∧
 ((@Eq (List TV) (Bl (fst f) (fst (snd f)) (fst (snd (snd f))) (fst (snd (snd (snd f)))) (snd (snd (snd (snd f))))) (Bl (fst f) (fst (snd f)) (fst (snd (snd f))) (fst (snd (snd (snd f)))) (snd (snd (snd (snd f))))))∧
 Pre ⟨[(a),(b)]++(aB y++ [(y (101:Nat)),(y (102:Nat)),(y (103:Nat)),(y (104:Nat)),(y (105:Nat)),(y (106:Nat)),(y (107:Nat)),(y (108:Nat)),(y (109:Nat)),(y (110:Nat)),(y (111:Nat)),(y (112:Nat)),(y (113:Nat)),(y (114:Nat)),(.cells [(.ptr 6 0)]),(.cells [(.ptr 8 0)]),(.cells [(.ptr 11 0)]),(.cells [(.val (.int .i64 (fst f))),(.val (.int .u32 (fst (snd f)))),(.val (.int .u32 (fst (snd (snd f))))),(.val (.int .i64 (fst (snd (snd (snd f)))))),(.val (.int .i64 (snd (snd (snd (snd f))))))]),(.cells [(.val (.int .i64 (now)))]),(.cells [(.val (.bool (tun)))]),(.cells [(.val (.int .i64 0)),(.val (.int .i64 0)),(.val (.int .i64 0)),(.val (.bool false))]),(.cells [(.val (.int .i64 0)),(.val (.int .i64 0)),(.val (.int .i64 0)),(.val (.bool false))]),(.cells [(.val (.int .i64 0)),(.val (.int .i64 0)),(.val (.int .i64 0)),(.val (.bool false))])]),[]⟩))∧
 (bif k
 then (((@Eq (Nat) 0 0)∧
 ((@Eq (List TV) [j7,(ar (fst (snd en)))] [j7,(ar (fst (snd en)))])∧
 Pre ⟨[(a),(b)]++(aB y++ [(y (101:Nat)),(y (102:Nat)),(y (103:Nat)),(y (104:Nat)),(y (105:Nat)),(y (106:Nat)),(y (107:Nat)),(y (108:Nat)),(y (109:Nat)),(y (110:Nat)),(y (111:Nat)),(y (112:Nat)),(y (113:Nat)),(y (114:Nat)),(.cells [(.ptr 6 0)]),(.cells [(.ptr 8 0)]),(.cells [(.ptr 11 0)]),(.cells [(.val (.int .i64 (fst f))),(.val (.int .u32 (fst (snd f)))),(.val (.int .u32 (fst (snd (snd f))))),(.val (.int .i64 (fst (snd (snd (snd f)))))),(.val (.int .i64 (snd (snd (snd (snd f))))))]),(.cells [(.val (.int .i64 (now)))]),(.cells [(.val (.bool (tun)))]),(.cells [(.val (.int .i64 0)),(.val (.int .i64 0)),(.val (.int .i64 0)),(.val (.bool false))]),(.cells [(.val (.int .i64 0)),(.val (.int .i64 0)),(.val (.int .i64 0)),(.val (.bool false))]),(.cells [(.val (.int .i64 0)),(.val (.int .i64 0)),(.val (.int .i64 0)),(.val (.bool false))]),(.cells [(.val (.int .i64 (fst (fst en)))),(.val (.int .u32 (fst (snd (fst en))))),(.val (.int .u32 (fst (snd (snd (fst en)))))),(.val (.int .i64 (fst (snd (snd (snd (fst en))))))),(.val (.int .i64 (snd (snd (snd (snd (fst en))))))),(.val (.int .i64 (fst (snd en)))),(.val (.int .i64 (snd (snd en))))])]),[]⟩))∧
 (((@Eq (Option TV) (.some (ar (fst (snd en)))) (.some (ar (fst (snd en)))))∧
 ((@Eq (Option TV) (.some j7) (.some j7))∧
 ((@Eq (Option TV) (.some (ar (fst (snd en)))) (.some (ar (fst (snd en)))))∧
 True)))∧
 Q (.tup [(If (fst (snd en))),(fh u)]) ⟨[(a),(b)]++(aB y++ [(y (101:Nat)),(y (102:Nat)),(y (103:Nat)),(y (104:Nat)),(y (105:Nat)),(y (106:Nat)),(y (107:Nat)),(y (108:Nat)),(y (109:Nat)),(y (110:Nat)),(y (111:Nat)),(y (112:Nat)),(y (113:Nat)),(y (114:Nat)),(.cells [(.ptr 6 0)]),(.cells [(.ptr 8 0)]),(.cells [(.ptr 11 0)]),(.cells [(.val (.int .i64 (fst f))),(.val (.int .u32 (fst (snd f)))),(.val (.int .u32 (fst (snd (snd f))))),(.val (.int .i64 (fst (snd (snd (snd f)))))),(.val (.int .i64 (snd (snd (snd (snd f))))))]),(.cells [(.val (.int .i64 (now)))]),(.cells [(.val (.bool (tun)))]),(.cells [(.val (.int .i64 0)),(.val (.int .i64 0)),(.val (.int .i64 0)),(.val (.bool false))]),(.cells [(.val (.int .i64 0)),(.val (.int .i64 0)),(.val (.int .i64 0)),(.val (.bool false))]),(.cells [(.val (.int .i64 1)),(.val (.int .i64 (fst (snd en)))),(.val (.int .i64 0)),(.val (.bool true))]),(.cells [(.val (.int .i64 (fst (fst en)))),(.val (.int .u32 (fst (snd (fst en))))),(.val (.int .u32 (fst (snd (snd (fst en)))))),(.val (.int .i64 (fst (snd (snd (snd (fst en))))))),(.val (.int .i64 (snd (snd (snd (snd (fst en))))))),(.val (.int .i64 (fst (snd en)))),(.val (.int .i64 (snd (snd en))))])]),[]⟩))
 else Q (.tup [(If (fst (snd en))),dG]) ⟨[(a),(b)]++(aB y++ [(y (101:Nat)),(y (102:Nat)),(y (103:Nat)),(y (104:Nat)),(y (105:Nat)),(y (106:Nat)),(y (107:Nat)),(y (108:Nat)),(y (109:Nat)),(y (110:Nat)),(y (111:Nat)),(y (112:Nat)),(y (113:Nat)),(y (114:Nat)),(.cells [(.ptr 6 0)]),(.cells [(.ptr 8 0)]),(.cells [(.ptr 11 0)]),(.cells [(.val (.int .i64 (fst f))),(.val (.int .u32 (fst (snd f)))),(.val (.int .u32 (fst (snd (snd f))))),(.val (.int .i64 (fst (snd (snd (snd f)))))),(.val (.int .i64 (snd (snd (snd (snd f))))))]),(.cells [(.val (.int .i64 (now)))]),(.cells [(.val (.bool (tun)))]),(.cells [(.val (.int .i64 0)),(.val (.int .i64 0)),(.val (.int .i64 0)),(.val (.bool false))]),(.cells [(.val (.int .i64 0)),(.val (.int .i64 0)),(.val (.int .i64 0)),(.val (.bool false))]),(.cells [(.val (.int .i64 1)),(.val (.int .i64 (fst (snd en)))),(.val (.int .i64 0)),(.val (.bool true))]),(.cells [(.val (.int .i64 (fst (fst en)))),(.val (.int .u32 (fst (snd (fst en))))),(.val (.int .u32 (fst (snd (snd (fst en)))))),(.val (.int .i64 (fst (snd (snd (snd (fst en))))))),(.val (.int .i64 (snd (snd (snd (snd (fst en))))))),(.val (.int .i64 (fst (snd en)))),(.val (.int .i64 (snd (snd en))))])]),[]⟩)):=by kernel_rfl
theorem Ll (a b:VO)(y:Nat→VO)(f:Fl)(now:Int)(tun:Bool)(Pre:VT→Prop)(pk qu:Bool)(L:Bs)(v:Bk)(v1:Int × Int × Int × Bool)(Q:TV→VT→Prop):aH prog ae (az [(CW,fS [.ptr 8 0] (c9 L) Pre),(C3,hJ [.agg (au f),.vec 3 L .none] (.tup [.agg (gA v.1 v.2.1 v.2.2),.val (.bool pk)])),(CV,fS [.ptr 8 0] (fh qu) Pre)]) (bp [(999998,.dead,none)]) 300 bo 0 GD [.ptr 120 0,.ptr 118 0] (rT a b y (ei f now tun [.cells (cW v1)])) Q=
 (((@Eq (Nat) 0 0)∧
 ((@Eq (List TV) [j7] [j7])∧
 Pre ⟨[(a),(b)]++(aB y++ [(y (101:Nat)),(y (102:Nat)),(y (103:Nat)),(y (104:Nat)),(y (105:Nat)),(y (106:Nat)),(y (107:Nat)),(y (108:Nat)),(y (109:Nat)),(y (110:Nat)),(y (111:Nat)),(y (112:Nat)),(y (113:Nat)),(y (114:Nat)),(.cells [(.ptr 6 0)]),(.cells [(.ptr 8 0)]),(.cells [(.ptr 11 0)]),(.cells [(.val (.int .i64 (fst f))),(.val (.int .u32 (fst (snd f)))),(.val (.int .u32 (fst (snd (snd f))))),(.val (.int .i64 (fst (snd (snd (snd f)))))),(.val (.int .i64 (snd (snd (snd (snd f))))))]),(.cells [(.val (.int .i64 (now)))]),(.cells [(.val (.bool (tun)))]),(.cells [(.val (.int .i64 0)),(.val (.int .i64 0)),(.val (.int .i64 0)),(.val (.bool false))]),(.cells [(.val (.int .i64 0)),(.val (.int .i64 0)),(.val (.int .i64 0)),(.val (.bool false))]),(.cells [(.val (.int .i64 (fst v1))),(.val (.int .i64 (fst (snd v1)))),(.val (.int .i64 (fst (snd (snd v1))))),(.val (.bool (snd (snd (snd v1)))))]),(.cells [(.val (.int .i64 0)),(.val (.int .i64 0)),(.val (.int .i64 0)),(.val (.bool false))])]),[]⟩))∧
 (((@Eq (Option TV) (.some j7) (.some j7))∧
 ((@Eq (Option TV) (.some (cR (fst f) (fst (snd f)) (fst (snd (snd f))) (fst (snd (snd (snd f)))) (snd (snd (snd (snd f)))))) (.some (cR (fst f) (fst (snd f)) (fst (snd (snd f))) (fst (snd (snd (snd f)))) (snd (snd (snd (snd f)))))))∧
 True))∧
 ((@Eq (List TV) (ur (fst f) (fst (snd f)) (fst (snd (snd f))) (fst (snd (snd (snd f)))) (snd (snd (snd (snd f)))) L) (ur (fst f) (fst (snd f)) (fst (snd (snd f))) (fst (snd (snd (snd f)))) (snd (snd (snd (snd f)))) L))∧
 (bif pk
 then (((@Eq (Nat) 0 0)∧
 ((@Eq (List TV) [j7] [j7])∧
 Pre ⟨[(a),(b)]++(aB y++ [(y (101:Nat)),(y (102:Nat)),(y (103:Nat)),(y (104:Nat)),(y (105:Nat)),(y (106:Nat)),(y (107:Nat)),(y (108:Nat)),(y (109:Nat)),(y (110:Nat)),(y (111:Nat)),(y (112:Nat)),(y (113:Nat)),(y (114:Nat)),(.cells [(.ptr 6 0)]),(.cells [(.ptr 8 0)]),(.cells [(.ptr 11 0)]),(.cells [(.val (.int .i64 (fst f))),(.val (.int .u32 (fst (snd f)))),(.val (.int .u32 (fst (snd (snd f))))),(.val (.int .i64 (fst (snd (snd (snd f)))))),(.val (.int .i64 (snd (snd (snd (snd f))))))]),(.cells [(.val (.int .i64 (now)))]),(.cells [(.val (.bool (tun)))]),(.cells [(.val (.int .i64 0)),(.val (.int .i64 0)),(.val (.int .i64 0)),(.val (.bool false))]),(.cells [(.val (.int .i64 0)),(.val (.int .i64 0)),(.val (.int .i64 0)),(.val (.bool false))]),(.cells [(.val (.int .i64 (fst v1))),(.val (.int .i64 (fst (snd v1)))),(.val (.int .i64 (fst (snd (snd v1))))),(.val (.bool (snd (snd (snd v1)))))]),(.cells [(.val (.int .i64 0)),(.val (.int .i64 0)),(.val (.int .i64 0)),(.val (.bool false))]),(.cells [(.val (.int .i64 (fst v))),(.val (.int .u32 (fst (snd v)))),(.val (.int .i64 (snd (snd v))))])]),[]⟩))∧
 (((@Eq (Option TV) (.some j7) (.some j7))∧
 ((@Eq (Option TV) (.some (ar (fst v))) (.some (ar (fst v))))∧
 True))∧
 Q (.tup [(Ie (fst v)),(fh qu)]) ⟨[(a),(b)]++(aB y++ [(y (101:Nat)),(y (102:Nat)),(y (103:Nat)),(y (104:Nat)),(y (105:Nat)),(y (106:Nat)),(y (107:Nat)),(y (108:Nat)),(y (109:Nat)),(y (110:Nat)),(y (111:Nat)),(y (112:Nat)),(y (113:Nat)),(y (114:Nat)),(.cells [(.ptr 6 0)]),(.cells [(.ptr 8 0)]),(.cells [(.ptr 11 0)]),(.cells [(.val (.int .i64 (fst f))),(.val (.int .u32 (fst (snd f)))),(.val (.int .u32 (fst (snd (snd f))))),(.val (.int .i64 (fst (snd (snd (snd f)))))),(.val (.int .i64 (snd (snd (snd (snd f))))))]),(.cells [(.val (.int .i64 (now)))]),(.cells [(.val (.bool (tun)))]),(.cells [(.val (.int .i64 0)),(.val (.int .i64 0)),(.val (.int .i64 0)),(.val (.bool false))]),(.cells [(.val (.int .i64 0)),(.val (.int .i64 0)),(.val (.int .i64 0)),(.val (.bool false))]),(.cells [(.val (.int .i64 (fst v1))),(.val (.int .i64 (fst (snd v1)))),(.val (.int .i64 (fst (snd (snd v1))))),(.val (.bool (snd (snd (snd v1)))))]),(.cells [(.val (.int .i64 1)),(.val (.int .i64 (fst v))),(.val (.int .i64 0)),(.val (.bool false))]),(.cells [(.val (.int .i64 (fst v))),(.val (.int .u32 (fst (snd v)))),(.val (.int .i64 (snd (snd v))))])]),[]⟩))
 else Q (.tup [(Ie (fst v)),dG]) ⟨[(a),(b)]++(aB y++ [(y (101:Nat)),(y (102:Nat)),(y (103:Nat)),(y (104:Nat)),(y (105:Nat)),(y (106:Nat)),(y (107:Nat)),(y (108:Nat)),(y (109:Nat)),(y (110:Nat)),(y (111:Nat)),(y (112:Nat)),(y (113:Nat)),(y (114:Nat)),(.cells [(.ptr 6 0)]),(.cells [(.ptr 8 0)]),(.cells [(.ptr 11 0)]),(.cells [(.val (.int .i64 (fst f))),(.val (.int .u32 (fst (snd f)))),(.val (.int .u32 (fst (snd (snd f))))),(.val (.int .i64 (fst (snd (snd (snd f)))))),(.val (.int .i64 (snd (snd (snd (snd f))))))]),(.cells [(.val (.int .i64 (now)))]),(.cells [(.val (.bool (tun)))]),(.cells [(.val (.int .i64 0)),(.val (.int .i64 0)),(.val (.int .i64 0)),(.val (.bool false))]),(.cells [(.val (.int .i64 0)),(.val (.int .i64 0)),(.val (.int .i64 0)),(.val (.bool false))]),(.cells [(.val (.int .i64 (fst v1))),(.val (.int .i64 (fst (snd v1)))),(.val (.int .i64 (fst (snd (snd v1))))),(.val (.bool (snd (snd (snd v1)))))]),(.cells [(.val (.int .i64 1)),(.val (.int .i64 (fst v))),(.val (.int .i64 0)),(.val (.bool false))]),(.cells [(.val (.int .i64 (fst v))),(.val (.int .u32 (fst (snd v)))),(.val (.int .i64 (snd (snd v))))])]),[]⟩)))):=by kernel_rfl
theorem Lm (a b:VO)(y:Nat→VO)(f:Fl)(now:Int)(tun:Bool)(Pre:VT→Prop)(sb:Bool)(s:Bk)(v1 v2:Int × Int × Int × Bool)(Q:TV→VT→Prop):aH prog ae (az [(zT,fS [.ptr 11 0,.val (.int .i64 now)] (.tup [.agg (dd s.1 s.2.1 s.2.2),.val (.bool sb)]) Pre)]) (bp [(999998,.dead,none)]) 300 bo 0 GE [.ptr 119 0,.ptr 121 0,.ptr 122 0] (rT a b y (ei f now tun [.cells (cW v1),.cells (cW v2)])) Q=
 (((@Eq (Nat) 0 0)∧
 ((@Eq (List TV) [(.ptr 11 0),(ar now)] [(.ptr 11 0),(ar now)])∧
 Pre ⟨[(a),(b)]++(aB y++ [(y (101:Nat)),(y (102:Nat)),(y (103:Nat)),(y (104:Nat)),(y (105:Nat)),(y (106:Nat)),(y (107:Nat)),(y (108:Nat)),(y (109:Nat)),(y (110:Nat)),(y (111:Nat)),(y (112:Nat)),(y (113:Nat)),(y (114:Nat)),(.cells [(.ptr 6 0)]),(.cells [(.ptr 8 0)]),(.cells [(.ptr 11 0)]),(.cells [(.val (.int .i64 (fst f))),(.val (.int .u32 (fst (snd f)))),(.val (.int .u32 (fst (snd (snd f))))),(.val (.int .i64 (fst (snd (snd (snd f)))))),(.val (.int .i64 (snd (snd (snd (snd f))))))]),(.cells [(.val (.int .i64 (now)))]),(.cells [(.val (.bool (tun)))]),(.cells [(.val (.int .i64 0)),(.val (.int .i64 0)),(.val (.int .i64 0)),(.val (.bool false))]),(.cells [(.val (.int .i64 0)),(.val (.int .i64 0)),(.val (.int .i64 0)),(.val (.bool false))]),(.cells [(.val (.int .i64 (fst v1))),(.val (.int .i64 (fst (snd v1)))),(.val (.int .i64 (fst (snd (snd v1))))),(.val (.bool (snd (snd (snd v1)))))]),(.cells [(.val (.int .i64 (fst v2))),(.val (.int .i64 (fst (snd v2)))),(.val (.int .i64 (fst (snd (snd v2))))),(.val (.bool (snd (snd (snd v2)))))]),(.cells [(.val (.int .i64 0)),(.val (.int .i64 0)),(.val (.int .i64 0)),(.val (.bool false))])]),[]⟩))∧
 (bif sb
 then Q (.tup [(Id (fst s)),(fh !tun)]) ⟨[(a),(b)]++(aB y++ [(y (101:Nat)),(y (102:Nat)),(y (103:Nat)),(y (104:Nat)),(y (105:Nat)),(y (106:Nat)),(y (107:Nat)),(y (108:Nat)),(y (109:Nat)),(y (110:Nat)),(y (111:Nat)),(y (112:Nat)),(y (113:Nat)),(y (114:Nat)),(.cells [(.ptr 6 0)]),(.cells [(.ptr 8 0)]),(.cells [(.ptr 11 0)]),(.cells [(.val (.int .i64 (fst f))),(.val (.int .u32 (fst (snd f)))),(.val (.int .u32 (fst (snd (snd f))))),(.val (.int .i64 (fst (snd (snd (snd f)))))),(.val (.int .i64 (snd (snd (snd (snd f))))))]),(.cells [(.val (.int .i64 (now)))]),(.cells [(.val (.bool (tun)))]),(.cells [(.val (.int .i64 0)),(.val (.int .i64 0)),(.val (.int .i64 0)),(.val (.bool false))]),(.cells [(.val (.int .i64 0)),(.val (.int .i64 0)),(.val (.int .i64 0)),(.val (.bool false))]),(.cells [(.val (.int .i64 (fst v1))),(.val (.int .i64 (fst (snd v1)))),(.val (.int .i64 (fst (snd (snd v1))))),(.val (.bool (snd (snd (snd v1)))))]),(.cells [(.val (.int .i64 (fst v2))),(.val (.int .i64 (fst (snd v2)))),(.val (.int .i64 (fst (snd (snd v2))))),(.val (.bool (snd (snd (snd v2)))))]),(.cells [(.val (.int .i64 2)),(.val (.int .i64 0)),(.val (.int .i64 (fst s))),(.val (.bool false))]),(.cells [(.val (.int .i64 (fst s))),(.val (.int .u32 (fst (snd s)))),(.val (.int .i64 (snd (snd s))))])]),[]⟩
 else Q (.tup [(Id (fst s)),dG]) ⟨[(a),(b)]++(aB y++ [(y (101:Nat)),(y (102:Nat)),(y (103:Nat)),(y (104:Nat)),(y (105:Nat)),(y (106:Nat)),(y (107:Nat)),(y (108:Nat)),(y (109:Nat)),(y (110:Nat)),(y (111:Nat)),(y (112:Nat)),(y (113:Nat)),(y (114:Nat)),(.cells [(.ptr 6 0)]),(.cells [(.ptr 8 0)]),(.cells [(.ptr 11 0)]),(.cells [(.val (.int .i64 (fst f))),(.val (.int .u32 (fst (snd f)))),(.val (.int .u32 (fst (snd (snd f))))),(.val (.int .i64 (fst (snd (snd (snd f)))))),(.val (.int .i64 (snd (snd (snd (snd f))))))]),(.cells [(.val (.int .i64 (now)))]),(.cells [(.val (.bool (tun)))]),(.cells [(.val (.int .i64 0)),(.val (.int .i64 0)),(.val (.int .i64 0)),(.val (.bool false))]),(.cells [(.val (.int .i64 0)),(.val (.int .i64 0)),(.val (.int .i64 0)),(.val (.bool false))]),(.cells [(.val (.int .i64 (fst v1))),(.val (.int .i64 (fst (snd v1)))),(.val (.int .i64 (fst (snd (snd v1))))),(.val (.bool (snd (snd (snd v1)))))]),(.cells [(.val (.int .i64 (fst v2))),(.val (.int .i64 (fst (snd v2)))),(.val (.int .i64 (fst (snd (snd v2))))),(.val (.bool (snd (snd (snd v2)))))]),(.cells [(.val (.int .i64 2)),(.val (.int .i64 0)),(.val (.int .i64 (fst s))),(.val (.bool false))]),(.cells [(.val (.int .i64 (fst s))),(.val (.int .u32 (fst (snd s)))),(.val (.int .i64 (snd (snd s))))])]),[]⟩)):=by kernel_rfl
theorem Ln (a b:VO)(y:Nat→VO)(f:Fl)(now:Int)(tun:Bool)(P1 P2 P3:VT→Prop)(b1 b2 b3:Bool)(v1 v2 v3:Int × Int × Int × Bool)(Q:TV→VT→Prop):aH prog ae (az [(GC,fS [.ptr 117 0,.ptr 120 0,.ptr 118 0] (.tup [.agg (cW v1),.val (.bool b1)]) P1),(GD,fS [.ptr 120 0,.ptr 118 0] (.tup [.agg (cW v2),.val (.bool b2)]) P2),(GE,fS [.ptr 119 0,.ptr 121 0,.ptr 122 0] (.tup [.agg (cW v3),.val (.bool b3)]) P3)]) (bp [(999998,.dead,none)]) 300 bo 0 JK [.ptr 6 0,.ptr 8 0,.ptr 11 0,.agg (au f),.val (.int .i64 now),.val (.bool tun)] (rT a b y []) Q=
 (((@Eq (Nat) 0 0)∧
 ((@Eq (List TV) [(.ptr 117 0),(.ptr 120 0),(.ptr 118 0)] [(.ptr 117 0),(.ptr 120 0),(.ptr 118 0)])∧
 P1 ⟨[(a),(b)]++(aB y++ [(y (101:Nat)),(y (102:Nat)),(y (103:Nat)),(y (104:Nat)),(y (105:Nat)),(y (106:Nat)),(y (107:Nat)),(y (108:Nat)),(y (109:Nat)),(y (110:Nat)),(y (111:Nat)),(y (112:Nat)),(y (113:Nat)),(y (114:Nat)),(.cells [(.ptr 6 0)]),(.cells [(.ptr 8 0)]),(.cells [(.ptr 11 0)]),(.cells [(.val (.int .i64 (fst f))),(.val (.int .u32 (fst (snd f)))),(.val (.int .u32 (fst (snd (snd f))))),(.val (.int .i64 (fst (snd (snd (snd f)))))),(.val (.int .i64 (snd (snd (snd (snd f))))))]),(.cells [(.val (.int .i64 (now)))]),(.cells [(.val (.bool (tun)))]),(.cells [(.val (.int .i64 0)),(.val (.int .i64 0)),(.val (.int .i64 0)),(.val (.bool false))]),(.cells [(.val (.int .i64 0)),(.val (.int .i64 0)),(.val (.int .i64 0)),(.val (.bool false))])]),[]⟩))∧
 (bif b1
 then Q (uo (fst v1) (fst (snd v1)) (fst (snd (snd v1))) (snd (snd (snd v1)))) ⟨[(a),(b)]++(aB y++ [(y (101:Nat)),(y (102:Nat)),(y (103:Nat)),(y (104:Nat)),(y (105:Nat)),(y (106:Nat)),(y (107:Nat)),(y (108:Nat)),(y (109:Nat)),(y (110:Nat)),(y (111:Nat)),(y (112:Nat)),(y (113:Nat)),(y (114:Nat)),(.cells [(.ptr 6 0)]),(.cells [(.ptr 8 0)]),(.cells [(.ptr 11 0)]),(.cells [(.val (.int .i64 (fst f))),(.val (.int .u32 (fst (snd f)))),(.val (.int .u32 (fst (snd (snd f))))),(.val (.int .i64 (fst (snd (snd (snd f)))))),(.val (.int .i64 (snd (snd (snd (snd f))))))]),(.cells [(.val (.int .i64 (now)))]),(.cells [(.val (.bool (tun)))]),(.cells [(.val (.int .i64 (fst v1))),(.val (.int .i64 (fst (snd v1)))),(.val (.int .i64 (fst (snd (snd v1))))),(.val (.bool (snd (snd (snd v1)))))]),(.cells [(.val (.int .i64 (fst v1))),(.val (.int .i64 (fst (snd v1)))),(.val (.int .i64 (fst (snd (snd v1))))),(.val (.bool (snd (snd (snd v1)))))]),(.cells [(.val (.int .i64 (fst v1))),(.val (.int .i64 (fst (snd v1)))),(.val (.int .i64 (fst (snd (snd v1))))),(.val (.bool (snd (snd (snd v1)))))])]),[]⟩
 else (((@Eq (Nat) 0 0)∧
 ((@Eq (List TV) [(.ptr 120 0),(.ptr 118 0)] [(.ptr 120 0),(.ptr 118 0)])∧
 P2 ⟨[(a),(b)]++(aB y++ [(y (101:Nat)),(y (102:Nat)),(y (103:Nat)),(y (104:Nat)),(y (105:Nat)),(y (106:Nat)),(y (107:Nat)),(y (108:Nat)),(y (109:Nat)),(y (110:Nat)),(y (111:Nat)),(y (112:Nat)),(y (113:Nat)),(y (114:Nat)),(.cells [(.ptr 6 0)]),(.cells [(.ptr 8 0)]),(.cells [(.ptr 11 0)]),(.cells [(.val (.int .i64 (fst f))),(.val (.int .u32 (fst (snd f)))),(.val (.int .u32 (fst (snd (snd f))))),(.val (.int .i64 (fst (snd (snd (snd f)))))),(.val (.int .i64 (snd (snd (snd (snd f))))))]),(.cells [(.val (.int .i64 (now)))]),(.cells [(.val (.bool (tun)))]),(.cells [(.val (.int .i64 0)),(.val (.int .i64 0)),(.val (.int .i64 0)),(.val (.bool false))]),(.cells [(.val (.int .i64 0)),(.val (.int .i64 0)),(.val (.int .i64 0)),(.val (.bool false))]),(.cells [(.val (.int .i64 (fst v1))),(.val (.int .i64 (fst (snd v1)))),(.val (.int .i64 (fst (snd (snd v1))))),(.val (.bool (snd (snd (snd v1)))))])]),[]⟩))∧
 (bif b2
 then Q (uo (fst v2) (fst (snd v2)) (fst (snd (snd v2))) (snd (snd (snd v2)))) ⟨[(a),(b)]++(aB y++ [(y (101:Nat)),(y (102:Nat)),(y (103:Nat)),(y (104:Nat)),(y (105:Nat)),(y (106:Nat)),(y (107:Nat)),(y (108:Nat)),(y (109:Nat)),(y (110:Nat)),(y (111:Nat)),(y (112:Nat)),(y (113:Nat)),(y (114:Nat)),(.cells [(.ptr 6 0)]),(.cells [(.ptr 8 0)]),(.cells [(.ptr 11 0)]),(.cells [(.val (.int .i64 (fst f))),(.val (.int .u32 (fst (snd f)))),(.val (.int .u32 (fst (snd (snd f))))),(.val (.int .i64 (fst (snd (snd (snd f)))))),(.val (.int .i64 (snd (snd (snd (snd f))))))]),(.cells [(.val (.int .i64 (now)))]),(.cells [(.val (.bool (tun)))]),(.cells [(.val (.int .i64 (fst v2))),(.val (.int .i64 (fst (snd v2)))),(.val (.int .i64 (fst (snd (snd v2))))),(.val (.bool (snd (snd (snd v2)))))]),(.cells [(.val (.int .i64 (fst v2))),(.val (.int .i64 (fst (snd v2)))),(.val (.int .i64 (fst (snd (snd v2))))),(.val (.bool (snd (snd (snd v2)))))]),(.cells [(.val (.int .i64 (fst v1))),(.val (.int .i64 (fst (snd v1)))),(.val (.int .i64 (fst (snd (snd v1))))),(.val (.bool (snd (snd (snd v1)))))]),(.cells [(.val (.int .i64 (fst v2))),(.val (.int .i64 (fst (snd v2)))),(.val (.int .i64 (fst (snd (snd v2))))),(.val (.bool (snd (snd (snd v2)))))])]),[]⟩
 else (((@Eq (Nat) 0 0)∧
 ((@Eq (List TV) [(.ptr 119 0),(.ptr 121 0),(.ptr 122 0)] [(.ptr 119 0),(.ptr 121 0),(.ptr 122 0)])∧
 P3 ⟨[(a),(b)]++(aB y++ [(y (101:Nat)),(y (102:Nat)),(y (103:Nat)),(y (104:Nat)),(y (105:Nat)),(y (106:Nat)),(y (107:Nat)),(y (108:Nat)),(y (109:Nat)),(y (110:Nat)),(y (111:Nat)),(y (112:Nat)),(y (113:Nat)),(y (114:Nat)),(.cells [(.ptr 6 0)]),(.cells [(.ptr 8 0)]),(.cells [(.ptr 11 0)]),(.cells [(.val (.int .i64 (fst f))),(.val (.int .u32 (fst (snd f)))),(.val (.int .u32 (fst (snd (snd f))))),(.val (.int .i64 (fst (snd (snd (snd f)))))),(.val (.int .i64 (snd (snd (snd (snd f))))))]),(.cells [(.val (.int .i64 (now)))]),(.cells [(.val (.bool (tun)))]),(.cells [(.val (.int .i64 0)),(.val (.int .i64 0)),(.val (.int .i64 0)),(.val (.bool false))]),(.cells [(.val (.int .i64 0)),(.val (.int .i64 0)),(.val (.int .i64 0)),(.val (.bool false))]),(.cells [(.val (.int .i64 (fst v1))),(.val (.int .i64 (fst (snd v1)))),(.val (.int .i64 (fst (snd (snd v1))))),(.val (.bool (snd (snd (snd v1)))))]),(.cells [(.val (.int .i64 (fst v2))),(.val (.int .i64 (fst (snd v2)))),(.val (.int .i64 (fst (snd (snd v2))))),(.val (.bool (snd (snd (snd v2)))))])]),[]⟩))∧
 (bif b3
 then Q (uo (fst v3) (fst (snd v3)) (fst (snd (snd v3))) (snd (snd (snd v3)))) ⟨[(a),(b)]++(aB y++ [(y (101:Nat)),(y (102:Nat)),(y (103:Nat)),(y (104:Nat)),(y (105:Nat)),(y (106:Nat)),(y (107:Nat)),(y (108:Nat)),(y (109:Nat)),(y (110:Nat)),(y (111:Nat)),(y (112:Nat)),(y (113:Nat)),(y (114:Nat)),(.cells [(.ptr 6 0)]),(.cells [(.ptr 8 0)]),(.cells [(.ptr 11 0)]),(.cells [(.val (.int .i64 (fst f))),(.val (.int .u32 (fst (snd f)))),(.val (.int .u32 (fst (snd (snd f))))),(.val (.int .i64 (fst (snd (snd (snd f)))))),(.val (.int .i64 (snd (snd (snd (snd f))))))]),(.cells [(.val (.int .i64 (now)))]),(.cells [(.val (.bool (tun)))]),(.cells [(.val (.int .i64 (fst v3))),(.val (.int .i64 (fst (snd v3)))),(.val (.int .i64 (fst (snd (snd v3))))),(.val (.bool (snd (snd (snd v3)))))]),(.cells [(.val (.int .i64 (fst v3))),(.val (.int .i64 (fst (snd v3)))),(.val (.int .i64 (fst (snd (snd v3))))),(.val (.bool (snd (snd (snd v3)))))]),(.cells [(.val (.int .i64 (fst v1))),(.val (.int .i64 (fst (snd v1)))),(.val (.int .i64 (fst (snd (snd v1))))),(.val (.bool (snd (snd (snd v1)))))]),(.cells [(.val (.int .i64 (fst v2))),(.val (.int .i64 (fst (snd v2)))),(.val (.int .i64 (fst (snd (snd v2))))),(.val (.bool (snd (snd (snd v2)))))]),(.cells [(.val (.int .i64 (fst v3))),(.val (.int .i64 (fst (snd v3)))),(.val (.int .i64 (fst (snd (snd v3))))),(.val (.bool (snd (snd (snd v3)))))])]),[]⟩
 else Q (.agg [bu,bu,bu,dG]) ⟨[(a),(b)]++(aB y++ [(y (101:Nat)),(y (102:Nat)),(y (103:Nat)),(y (104:Nat)),(y (105:Nat)),(y (106:Nat)),(y (107:Nat)),(y (108:Nat)),(y (109:Nat)),(y (110:Nat)),(y (111:Nat)),(y (112:Nat)),(y (113:Nat)),(y (114:Nat)),(.cells [(.ptr 6 0)]),(.cells [(.ptr 8 0)]),(.cells [(.ptr 11 0)]),(.cells [(.val (.int .i64 (fst f))),(.val (.int .u32 (fst (snd f)))),(.val (.int .u32 (fst (snd (snd f))))),(.val (.int .i64 (fst (snd (snd (snd f)))))),(.val (.int .i64 (snd (snd (snd (snd f))))))]),(.cells [(.val (.int .i64 (now)))]),(.cells [(.val (.bool (tun)))]),(.cells [(.val (.int .i64 0)),(.val (.int .i64 0)),(.val (.int .i64 0)),(.val (.bool false))]),(.cells [(.val (.int .i64 0)),(.val (.int .i64 0)),(.val (.int .i64 0)),(.val (.bool false))]),(.cells [(.val (.int .i64 (fst v1))),(.val (.int .i64 (fst (snd v1)))),(.val (.int .i64 (fst (snd (snd v1))))),(.val (.bool (snd (snd (snd v1)))))]),(.cells [(.val (.int .i64 (fst v2))),(.val (.int .i64 (fst (snd v2)))),(.val (.int .i64 (fst (snd (snd v2))))),(.val (.bool (snd (snd (snd v2)))))]),(.cells [(.val (.int .i64 (fst v3))),(.val (.int .i64 (fst (snd v3)))),(.val (.int .i64 (fst (snd (snd v3))))),(.val (.bool (snd (snd (snd v3)))))])]),[]⟩)))))):=by kernel_rfl
set_option maxRecDepth 100000
section
open Go.RowKit Go.Maps Go.Sort
theorem wl {α:Type}(l:List α)(k:Nat)(hk:k≤l.length):aT l (List.range k) (l.take k)=l:=by
 obtain ⟨h1,h2,h3,_⟩:=eJ (List.range k) l (l.take k) nodup_range (λi hi=>by have:=mem_range.1 hi;omega) (by simp [hk])
 apply ext_getElem?
 intro i
 rcases lt_or_ge i k with h | h
 ·rw [h3 i i (getElem?_range h),getElem?_take,if_pos h]
 ·rcases lt_or_ge i l.length with h4 | h4
  ·exact h2 i h4 (by simp;omega)
  ·rw [getElem?_eq_none (by rw [h1];simp;omega),getElem?_eq_none h4]
theorem tK {T:VT}{A:List VO}(h:T.objs.take 117=A){j:Nat}(hj:j<117):T.objs[j]?=A[j]?:=by
 rw [←h,getElem?_take,if_pos hj]
section
variable {O:Nat→VO}{rg:VO}{lk:Value→Option TV}{es:Es}{ck:Nat}{now came went:Int}{x:Nat→VO}{y:List VO}{m:Nat}{f:FuncId}{xs:List TV}{x0:TV}
theorem uT (h:FlS m rg lk es x)(hO:fR O)(f g:Nat→Option Nat)(hf:∀j,j<16+m→f j=some j):(cj O rg lk es ck now came went++(List.range m).map x).map (VO.ren f g)=cj O rg lk es ck now came went++(List.range m).map x:=by
 have e:=ni (ck:=ck) (now:=now) (came:=came) (went:=went) h hO f g hf
 have e2:=congrArg (List.take (16+m)) e
 rw [←map_take] at e2
 have e3:=kN (O:=O) (rg:=rg) (lk:=lk) (es:=es) (ck:=ck) (now:=now) (came:=came) (went:=went) (x:=x) (y:= []) h.hn
 simp only [fy,append_nil] at e3
 rw [e3] at e2
 exact e2
theorem Ao (h:FlS m rg lk es x)(hO:fR O)(hL:∀v∈cj O rg lk es ck now came went,v.live=true)(hx:av (aj (List.range (16+m))) (aj []) xs=xs)(h0:∀f g,x0.ren f g=x0)
  (hv:VCx prog ae 0 f xs (fy O rg lk es ck now came went x []) λr T'=>r=x0∧∃y,T'=fy O rg lk es ck now came went x y) {T:VT} (hT:T.objs.take 117=(fy O rg lk es ck now came went x []).objs):
  VCx prog ae 0 f xs T λr T'=>r=x0∧T'=T:=by
 have hm:=h.hn
 have hlen:117≤T.objs.length:=by
  have:=congrArg length hT
  rw [ed,List.length_take] at this
  simp only [length_nil] at this
  omega
 have hk:T.objs.take (16+m)=cj O rg lk es ck now came went++(List.range m).map x:=by
  have e:=congrArg (List.take (16+m)) hT
  rw [kN hm,List.take_take,Nat.min_eq_left (by omega)] at e
  exact e
 have hg:T.give (List.range (16+m)) []=fz O rg lk es ck now came went x m:=by
  simp only [VT.give,fz,map_nil]
  congr 1
  rw [mm (VO.ren (aj (List.range (16+m))) (aj [])) .gone (16+m) _ (by omega),hk]
  exact uT h hO _ _ λj hj=>jV hj
 have hfz:VCx prog ae 0 f xs (fz O rg lk es ck now came went x m) λr T'=>r=x0∧T'=fz O rg lk es ck now came went x m:=by
  refine VCx.pick (VCx.pad (101-m) ?_)
  rw [tJ hm h.none]
  refine hv.mono ?_
  rintro r T' ⟨rfl,y,rfl⟩
  exact ⟨List.range (16+m),[],oa pR rfl hm,h0 _ _,r9 h hO⟩
 refine (VCx.lift (xs:=xs) (List.range (16+m)) [] bg nodup_range nodup_nil (λi hi=> ?_) (by simp) (λ_ _=>zero_le _) hx (by rw [hg];exact hfz) (λr T' hq=> ?_)).mono ?_
 ·have hi:=mem_range.1 hi
  have e1:T.objs[i]?=(cj O rg lk es ck now came went++(List.range m).map x)[i]?:=by rw [←hk,getElem?_take,if_pos hi]
  rcases lt_or_ge i 16 with h1 | h1
  ·rw [getElem?_append_left (by rw [bB];exact h1)] at e1
   have e2:=getElem?_eq_getElem (l:=cj O rg lk es ck now came went) (i:=i) (by rw [bB];exact h1)
   exact ⟨_,e1.trans e2,hL _ (getElem_mem _)⟩
  ·obtain ⟨j,rfl⟩:∃j,i=16+j:=⟨i-16,by omega⟩
   obtain ⟨e,a,c,q1,q2,_⟩:=pJ h (i:=j) (by omega) O lk es ck now came went []
   rw [List.getElem?_append_right (by rw [bB];omega),bB,show 16+j-16=j by omega,getElem?_map,getElem?_range (by omega)] at e1
   exact ⟨_,e1,by simp only [q2];rfl⟩
 ·obtain ⟨_,rfl⟩:=hq
  exact ⟨by rw [pR,length_range];exact le_refl _,zero_le _⟩
 ·rintro r T' ⟨y,T2,⟨rfl,rfl⟩,rfl,rfl⟩
  refine ⟨h0 _ _,?_⟩
  have e1:=uT (ck:=ck) (now:=now) (came:=came) (went:=went) h hO (an T.objs.length (List.range (16+m))) (an T.tails.length []) λj hj=>by
   simp only [an,length_range,if_pos hj,getElem?_range hj]
  rw [←hk] at e1
  simp only [VT.back,fz,←hk,e1,aT,append_nil]
  rw [wl _ _ (by omega)]
theorem Fw (h:FlS m rg lk es x)(ho:fR O)(hy:∀z∈y,z.ren (ai (117+y.length)) (ai 0)=z)(l:List VO)(k:Nat)(hk:k=117+y.length):VT.keep (fy O rg lk es ck now came went x (y++l)) k 0=fy O rg lk es ck now came went x y:=by
 subst hk
 have hn:=h.hn
 have e1:(cj O rg lk es ck now came went++(aB x++(y++l))).take (117+y.length)=(cj O rg lk es ck now came went++aB x)++y:=by
  rw [show cj O rg lk es ck now came went++(aB x++(y++l))=((cj O rg lk es ck now came went++aB x)++y)++l by simp only [append_assoc]]
  exact take_left' (by simp only [length_append,bB,cE])
 have e2:=ni (ck:=ck) (now:=now) (came:=came) (went:=went) h ho (ai (117+y.length)) (ai 0) λj hj=>fQ (by omega)
 have e3:y.map (VO.ren (ai (117+y.length)) (ai 0))=y:=by
  conv=>rhs;rw [←List.map_id y]
  exact List.map_congr_left hy
 simp only [VT.keep,fy]
 rw [e1,map_append,e2,e3,append_assoc]
 rfl
theorem Ap (a b:VO)(B l:List VO)(hB:B.length=115):rT a b (λk=>B[k]?.getD .gone) l=⟨a::b::(B++l),[]⟩:=by
 have e1:aB (λk=>B[k]?.getD .gone)=B.take 101:=by
  apply ext_getElem?
  intro i
  rcases lt_or_ge i 101 with h | h
  ·rw [nh _ i h,getElem?_take,if_pos h,getElem?_eq_getElem (by omega)];rfl
  ·rw [getElem?_eq_none (by rw [cE];exact h),getElem?_eq_none (by simp;omega)]
 have e2:(List.range 14).map (λk=>B[101+k]?.getD .gone)=B.drop 101:=by
  apply ext_getElem?
  intro i
  rw [List.getElem?_drop,getElem?_map]
  rcases lt_or_ge i 14 with h | h
  ·have e9:B[101+i]?=some B[101+i]:=getElem?_eq_getElem (by omega)
   rw [getElem?_range h,map_some,e9];rfl
  ·rw [getElem?_eq_none (by simpa using h),getElem?_eq_none (by omega)];rfl
 have e3:B++l=B.take 101++((List.range 14).map (λk=>B[101+k]?.getD .gone)++l):=by
  rw [e2,←append_assoc,List.take_append_drop]
 rw [e3,←e1]
 rfl
theorem BW (O:Nat→VO)(rg:VO)(lk:Value→Option TV)(es:Es)(ck:Nat)(now came went:Int)(x:Nat→VO):∃y,∀l,rT (O 0) (O 1) y l=fy O rg lk es ck now came went x l:=by
 refine ⟨λk=>((cj O rg lk es ck now came went).drop 2++aB x)[k]?.getD .gone,λl=> ?_⟩
 rw [Ap _ _ _ _ (by simp only [List.length_drop,length_append,bB,cE])]
 simp only [fy,append_assoc]
 rfl
end
end
set_option maxRecDepth 100000
section
open Go.RowKit Go.Maps Go.Sort
def JO (v:VO):En:=match v with
 | .cells (.val (.int _ p):: .val (.int _ s):: .val (.int _ d):: .val (.int _ sp):: .val (.int _ dp):: .val (.int _ b):: .val (.int _ l)::_)=>((p,s,d,sp,dp),b,l)
 |_=>((0,0,0,0,0),0,0)
theorem yW (e:En)(u v:TV):JO (de e u v)=e:=rfl
def fY (lk:Value→Option TV)(x:Nat→VO)(f:Fl):Option En:=(lk (da f)).map λv=>match v with
 | .ptr p 0=>JO (x (p-16))
 |_=>((0,0,0,0,0),0,0)
def LZ (o:Option En):TV:=.tup [.agg (aO (o.getD ((0,0,0,0,0),0,0))),.val (.bool o.isSome)]
theorem Fx {T:VT}{a:Operand}{l:List (Nat × TV)}{id:Nat}{e:En}{u v:TV}(ha:aq ae l a=.ptr id 0)(ho:T.objs[id]?=some (de e u v)):cm prog ae T false (.load 49 a) l (.agg (aO e)):=by
 obtain ⟨inf,i1,i2⟩:=DB
 refine .mk ?_
 have hc:bJ T (.ptr id 0) 7=some (aO e):=by
  simp only [bJ,ho,de]
  rfl
 simp [iS,aR,cN,aK,cM,eV,Tryz.underlying49,i1,i2,ge,ha,hc]
structure MdI where
 n:Int
 S:List Mb
 L:List aN
 R:cP
 O:Nat→VO
 rg:VO
 lk:Value→Option TV
 es:Es
 ck:Nat
 now:Int
 came:Int
 went:Int
 x:Nat→VO
 m:Nat
def MdI.T (i:MdI)(y:List VO):VT:=fy i.O i.rg i.lk i.es i.ck i.now i.came i.went i.x y
structure MdA (A:List VO) (i:MdI):Prop where
 hA:A=(i.T []).objs
 fix:fR i.O
 live:∀v∈cj i.O i.rg i.lk i.es i.ck i.now i.came i.went,v.live=true
 fl:FlS i.m i.rg i.lk i.es i.x
 n1:1≤i.n
 n2:i.n≤100
 po:∃lk es ck st,i.O 8=.cells [.val (.int .i64 i.n),.map 7]∧i.O 7=.map kI lk es ck∧PoOk lk es ck i.S st
 si:∃lk es ck lk2 es2 ck2 st,i.O 11=.cells [.map 9,.map 10]∧i.O 9=.map kI lk es ck∧i.O 10=.map kI lk2 es2 ck2∧SitesOk lk es ck i.L st∧RepsOk lk2 es2 i.R
section
variable {A:List VO}{i:MdI}{T:VT}
theorem JP (h:MdA A i)(hT:T.objs.take 117=A)(f:Fl):VCx prog ae 0 Du [.ptr 6 0,.agg (au f)] T λr T'=>r=LZ (fY i.lk i.x f)∧T'=T:=by
 rw [h.hA] at hT
 have h6:aj (List.range (16+i.m)) 6=some 6:=jV (by omega)
 refine Ao h.fl h.fix h.live ?_ (λ_ _=>rfl) ?_ hT
 ·simp only [av,TV.ren,h6,au,bQ]
 ·cases hl:i.lk (da f) with
  |none=>
   refine ap ah ag aw ak (JN i.O i.rg i.lk i.es i.ck i.now i.came i.went i.x f _) ?_
   refine ⟨dJ ((gT (lk:=i.lk) (es:=i.es) (ck:=i.ck) rfl).trans (by rw [hl];rfl)),?_,_,rfl⟩
   simp only [fY,hl]
   rfl
  |some v=>
   obtain ⟨j,hj,rfl⟩:=h.fl.map _ _ hl
   obtain ⟨e,a,c,q1,q2,_⟩:=pJ h.fl hj i.O i.lk i.es i.ck i.now i.came i.went [.cells (au f),Ae]
   have hp:fY i.lk i.x f=some e:=by
    simp only [fY,hl,map_some,Nat.add_sub_cancel_left,q2,cK,yW]
   refine ap ah ag aw ak (JM i.O i.rg i.lk i.es i.ck i.now i.came i.went i.x (16+j) f e _) ?_
   refine ⟨dJ ((gT (lk:=i.lk) (es:=i.es) (ck:=i.ck) rfl).trans (by rw [hl];rfl)),dJ ((gT (lk:=i.lk) (es:=i.es) (ck:=i.ck) rfl).trans (by rw [hl];rfl)),Fx rfl q1,?_,_,rfl⟩
   rw [hp];rfl
theorem MdA.at (h:MdA A i)(hT:T.objs.take 117=A){j:Nat}(hj:j<16):T.objs[j]?=(cj i.O i.rg i.lk i.es i.ck i.now i.came i.went)[j]?:=by
 rw [tK hT (by omega),h.hA]
 exact fW hj
theorem BX (h:MdA A i)(hT:T.objs.take 117=A){f:FuncId}{xs ys:List TV}{x0:TV}(hy:av (aj [8,7]) (aj []) ys=xs)(hx:∀f g,x0.ren f g=x0)(hv:∀lk es ck st,PoOk lk es ck i.S st→VCx prog ae 0 f xs (pT i.n lk es ck) (vL i.n lk es ck x0)):VCx prog ae 0 f ys T λr T'=>r=x0∧T'=T:=by
 obtain ⟨lk,es,ck,st,h8,h7,hp⟩:=h.po
 have e8:T.objs[8]?=some (.cells [.val (.int .i64 i.n),.map 7]):=(h.at hT (j:=8) (by decide)).trans (by rw [←h8];rfl)
 have e7:T.objs[7]?=some (.map kI lk es ck):=(h.at hT (j:=7) (by decide)).trans (by rw [←h7];rfl)
 exact C0 hp hy hx (hv lk es ck st hp) 0 ys T _ ⟨⟨rfl,rfl,e8,e7⟩,rfl,rfl⟩
theorem Lo (h:MdA A i)(hT:T.objs.take 117=A)(z:Int):VCx prog ae 0 CT [.ptr 8 0,.val (.int .i64 z)] T λr T'=>r=.val (.bool (bq i.S z).2.1)∧T'=T:=
 BX h hT (xs:= [.ptr 0 0,.val (.int .i64 z)]) rfl (λ_ _=>rfl) λ_ _ _ _ hp=>Iz hp z
theorem Lr (h:MdA A i)(hT:T.objs.take 117=A):VCx prog ae 0 CV [.ptr 8 0] T λr T'=>r=.val (.bool (uF i.n i.S))∧T'=T:=
 BX h hT (xs:= [.ptr 0 0]) rfl (λ_ _=>rfl) λ_ _ _ _ hp=>I4 hp ⟨h.n1,h.n2⟩
theorem Ls (h:MdA A i)(hT:T.objs.take 117=A):VCx prog ae 0 CW [.ptr 8 0] T λr T'=>r=.vec 3 ((dI i.S).map bd) .none∧T'=T:=
 BX h hT (xs:= [.ptr 0 0]) rfl (λf g=>by simp only [TV.ren,tI,Tok.ren]) λ_ _ _ _ hp=>I7 hp
theorem Lt (h:MdA A i)(hT:T.objs.take 117=A)(n:Int):VCx prog ae 0 zT [.ptr 11 0,.val (.int .i64 n)] T λr T'=>r=.tup [iH (vY (dq i.L i.R n)),.val (.bool (wF (dq i.L i.R n)))]∧T'=T:=by
 obtain ⟨lk,es,ck,lk2,es2,ck2,st,h11,h9,h10,g1,g2⟩:=h.si
 have e11:T.objs[11]?=some (.cells [.map 9,.map 10]):=(h.at hT (j:=11) (by decide)).trans (by rw [←h11];rfl)
 have e9:T.objs[9]?=some (.map kI lk es ck):=(h.at hT (j:=9) (by decide)).trans (by rw [←h9];rfl)
 have e10:T.objs[10]?=some (.map kI lk2 es2 ck2):=(h.at hT (j:=10) (by decide)).trans (by rw [←h10];rfl)
 have q1:=g1.ren (aj [11,9,10]) (aj [])
 have q2:=g2.ren ck2 (aj [11,9,10]) (aj [])
 have hg:T.give [11,9,10] []=sT lk lk2 es es2 ck ck2:=by
  simp only [VT.give,map_cons,map_nil,e11,e9,e10,getD_some,q1,q2,sT]
  rfl
 refine (VCx.lift (xs:= [.ptr 0 0,.val (.int .i64 n)]) [11,9,10] [] bg (by decide) nodup_nil (λk hk'=> ?_) (by simp) (λ_ _=>zero_le _) rfl (by rw [hg];exact Jt g1 g2 n) (λx T' hq=> ?_)).mono ?_
 ·simp only [mem_cons,not_mem_nil,or_false] at hk'
  rcases hk' with rfl | rfl | rfl
  ·exact ⟨_,e11,rfl⟩
  ·exact ⟨_,e9,rfl⟩
  ·exact ⟨_,e10,rfl⟩
 ·obtain ⟨_,rfl⟩:=hq;exact ⟨le_refl 3,zero_le _⟩
 ·rintro x T' ⟨y,T2,⟨rfl,rfl⟩,rfl,rfl⟩
  refine ⟨rfl,?_⟩
  have r1:=g1.ren (an T.objs.length [11,9,10]) (an T.tails.length [])
  have r2:=g2.ren ck2 (an T.objs.length [11,9,10]) (an T.tails.length [])
  have e1:VO.ren (an T.objs.length [11,9,10]) (an T.tails.length []) (.cells [.map 1,.map 2])=.cells [.map 9,.map 10]:=by simp [VO.ren,av,TV.ren,an]
  simp only [VT.back,sT,map_cons,map_nil,r1,r2,e1,aT]
  rw [fA e11,fA e9,fA e10]
  simp
def BY (f:Fl):Int:=jz f.1 f.2.1 f.2.2.1 f.2.2.2.1 f.2.2.2.2
abbrev Vd:=Int × Int × Int × Bool
def jW (i:MdI)(f:Fl):Vd × Bool:=((1,((fY i.lk i.x f).getD ((0,0,0,0,0),0,0)).2.1,0,true),(fY i.lk i.x f).isSome&&(bq i.S ((fY i.lk i.x f).getD ((0,0,0,0,0),0,0)).2.1).2.1)
def mq (i:MdI)(f:Fl):Vd × Bool:=((1,((ku (BY f) (dI i.S)).getD (0,0,0)).1,0,false),(ku (BY f) (dI i.S)).isSome&&uF i.n i.S)
def oy (i:MdI)(now:Int)(tun:Bool):Vd × Bool:=((2,0,(vY (dq i.L i.R now)).1,false),wF (dq i.L i.R now)&& !tun)
def fZ (i:MdI)(f:Fl)(now:Int)(tun:Bool):Vd:=bif (jW i f).2 then (jW i f).1 else bif (mq i f).2 then (mq i f).1 else bif (oy i now tun).2 then (oy i now tun).1 else (0,0,0,false)
theorem mr (a b:VO)(y:Nat→VO)(l:List VO):(rT a b y l).objs.take 117=(rT a b y []).objs:=by
 have e:(rT a b y l).objs=(rT a b y []).objs++l:=by
  simp only [rT,cons_append,append_assoc,nil_append]
 rw [e,take_left']
 simp only [rT,length_cons,length_append,cE,length_nil]
theorem JQ (k:Nat)(hk:122≤k)(f:Fl)(now:Int)(tun:Bool){l:List VO}(hl:∀z∈l,∃v:Vd,z=.cells (cW v)):∀z∈ei f now tun l,z.ren (ai k) (ai 0)=z:=by
 intro z hz
 simp only [ei,mem_cons] at hz
 rcases hz with rfl | rfl | rfl | rfl | rfl | rfl | rfl | rfl | hz
 ·simp only [VO.ren,av,TV.ren,fQ (show 6<k by omega)]
 ·simp only [VO.ren,av,TV.ren,fQ (show 8<k by omega)]
 ·simp only [VO.ren,av,TV.ren,fQ (show 11<k by omega)]
 ·rfl
 ·rfl
 ·rfl
 ·rfl
 ·rfl
 ·obtain ⟨v,rfl⟩:=hl z hz;rfl
end
end
set_option maxRecDepth 100000
section
open Go.RowKit Go.Maps Go.Sort
theorem Fy {S:List Mb}(h:S.length≤16):(dI S).length≤16:=by
 unfold dI
 rw [length_map]
 have:=xY (ky:=aS) (S:=S) (p:=lh) (l:=cd aS S)
 rw [xW] at this
 omega
theorem gV {f:FuncId}{ys0:List TV}{x0:TV}{Pre:VT→Prop}(h:∀T,Pre T→VCx prog ae 0 f ys0 T λr T'=>r=x0∧T'=T):∀ro ys T K,fS ys0 x0 Pre ro ys T K→VCx prog ae ro f ys T K:=by
 rintro ro ys T K ⟨⟨rfl,rfl,hT⟩,hk⟩
 refine (h T hT).mono ?_
 rintro r T' ⟨rfl,rfl⟩
 exact hk
section
variable {A:List VO}{i:MdI}{T:VT}{y:Nat→VO}
theorem MdA.few (h:MdA A i):i.S.length≤16:=by
 obtain ⟨_,_,_,_,_,_,hp⟩:=h.po
 exact hp.ok.few
theorem MdA.nd (h:MdA A i):(i.S.map aS).Nodup:=by
 obtain ⟨_,_,_,_,_,_,hp⟩:=h.po
 exact hp.ok.nd
theorem uV (h:MdA A i)(hy:∀l,rT (i.O 0) (i.O 1) y l=i.T l)(f:Fl)(now:Int)(tun:Bool)(vs:List Vd)(l:List VO)(k:Nat)(hk:k=125+vs.length):VT.keep (rT (i.O 0) (i.O 1) y (ei f now tun (vs.map (λv=>.cells (cW v))++l))) k 0=rT (i.O 0) (i.O 1) y (ei f now tun (vs.map λv=>.cells (cW v))):=by
 have e:ei f now tun (vs.map (λv=>VO.cells (cW v))++l)=ei f now tun (vs.map λv=>.cells (cW v))++l:=rfl
 rw [e,hy,hy]
 have hl:(ei f now tun (vs.map λv=>VO.cells (cW v))).length=8+vs.length:=by
  simp only [ei,length_cons,length_map];omega
 exact Fw h.fl h.fix (JQ _ (by rw [hl];omega) f now tun λz hz=>by obtain ⟨v,_,rfl⟩:=mem_map.1 hz;exact ⟨v,rfl⟩) l k (by rw [hl];omega)
theorem ib (a b:VO)(y:Nat→VO)(l:List VO):(rT a b y l).objs.length=117+l.length:=by
 simp only [rT,length_cons,length_append,cE];omega
theorem JR (h:MdA A i)(hy:∀l,rT (i.O 0) (i.O 1) y l=i.T l)(f:Fl)(now:Int)(tun:Bool):VCx prog ae 0 GC [.ptr 117 0,.ptr 120 0,.ptr 118 0] (rT (i.O 0) (i.O 1) y (ei f now tun [])) λr T'=>r=.tup [.agg (cW (jW i f).1),.val (.bool (jW i f).2)]∧T'=rT (i.O 0) (i.O 1) y (ei f now tun []):=by
 have hA:(rT (i.O 0) (i.O 1) y []).objs=A:=by rw [hy,h.hA]
 have hC:aQ prog ae (az [(Du,fS [.ptr 6 0,.agg (au f)] (LZ (fY i.lk i.x f)) λT=>T.objs.take 117=A),(CT,fS [.ptr 8 0,.val (.int .i64 ((fY i.lk i.x f).getD ((0,0,0,0,0),0,0)).2.1)] (.val (.bool (bq i.S ((fY i.lk i.x f).getD ((0,0,0,0,0),0,0)).2.1).2.1)) λT=>T.objs.take 117=A)]):=aE λp hp=>by
  simp only [mem_cons,not_mem_nil,or_false] at hp
  rcases hp with rfl | rfl
  ·exact gV λT hT=>JP h hT f
  ·exact gV λT hT=>Lo h hT _
 have hk:∀l,VT.keep (rT (i.O 0) (i.O 1) y (ei f now tun l)) 125 0=rT (i.O 0) (i.O 1) y (ei f now tun []):=λl=>uV h hy f now tun [] l 125 rfl
 refine VCx.keepQ 125 0 (by rw [ib];exact le_refl _) (le_refl _) (ap ah ag hC ak (Lk _ _ y f now tun _ _ _ _ _) ?_)
 have pre:∀l,(rT (i.O 0) (i.O 1) y l).objs.take 117=A:=λl=>(mr _ _ y l).trans hA
 refine ⟨⟨rfl,rfl,pre (ei f now tun [.cells (dO 0 0 0 false)])⟩,aL (λhb=>⟨⟨rfl,rfl,pre (ei f now tun [.cells (dO 0 0 0 false),.cells (aO ((fY i.lk i.x f).getD ((0,0,0,0,0),0,0)))])⟩,⟨rfl,rfl,rfl,trivial⟩,?_,hk [.cells (dO 1 ((fY i.lk i.x f).getD ((0,0,0,0,0),0,0)).2.1 0 true),.cells (aO ((fY i.lk i.x f).getD ((0,0,0,0,0),0,0)))]⟩) (λhb=>⟨?_,hk [.cells (dO 1 ((fY i.lk i.x f).getD ((0,0,0,0,0),0,0)).2.1 0 true),.cells (aO ((fY i.lk i.x f).getD ((0,0,0,0,0),0,0)))]⟩)⟩
 ·simp only [jW,hb,Bool.true_and];rfl
 ·simp only [jW,hb,Bool.false_and];rfl
theorem JS (h:MdA A i)(hy:∀l,rT (i.O 0) (i.O 1) y l=i.T l)(f:Fl)(now:Int)(tun:Bool)(v1:Vd):VCx prog ae 0 GD [.ptr 120 0,.ptr 118 0] (rT (i.O 0) (i.O 1) y (ei f now tun [.cells (cW v1)])) λr T'=>r=.tup [.agg (cW (mq i f).1),.val (.bool (mq i f).2)]∧T'=rT (i.O 0) (i.O 1) y (ei f now tun [.cells (cW v1)]):=by
 have hA:(rT (i.O 0) (i.O 1) y []).objs=A:=by rw [hy,h.hA]
 have hC:aQ prog ae (az [(CW,fS [.ptr 8 0] (.vec 3 ((dI i.S).map bd) .none) λT=>T.objs.take 117=A),(C3,hJ [.agg (au f),.vec 3 ((dI i.S).map bd) .none] (LL (ku (BY f) (dI i.S)))),(CV,fS [.ptr 8 0] (.val (.bool (uF i.n i.S))) λT=>T.objs.take 117=A)]):=aE λp hp=>by
  simp only [mem_cons,not_mem_nil,or_false] at hp
  rcases hp with rfl | rfl | rfl
  ·exact gV λT hT=>Ls h hT
  ·exact vG bg (by simp only [av,TV.ren,tI,Tok.ren];rfl) (λ_ _=>rfl) (I3 f.1 f.2.1 f.2.2.1 f.2.2.2.1 f.2.2.2.2 (dI i.S) (by have:=Fy h.few;omega))
  ·exact gV λT hT=>Lr h hT
 have hk:∀l,VT.keep (rT (i.O 0) (i.O 1) y (ei f now tun (.cells (cW v1)::l))) 126 0=rT (i.O 0) (i.O 1) y (ei f now tun [.cells (cW v1)]):=λl=>uV h hy f now tun [v1] l 126 rfl
 refine VCx.keepQ 126 0 (by rw [ib];exact le_refl _) (le_refl _) (ap ah ag hC ak (Ll _ _ y f now tun _ _ _ _ _ v1 _) ?_)
 have pre:∀l,(rT (i.O 0) (i.O 1) y l).objs.take 117=A:=λl=>(mr _ _ y l).trans hA
 generalize hpk:(ku (BY f) (dI i.S)).getD (0,0,0)=b
 refine ⟨⟨rfl,rfl,pre (ei f now tun [.cells (cW v1),.cells (dO 0 0 0 false)])⟩,⟨rfl,rfl,trivial⟩,rfl,aL (λhb=>⟨⟨rfl,rfl,pre (ei f now tun [.cells (cW v1),.cells (dO 0 0 0 false),.cells (gA b.1 b.2.1 b.2.2)])⟩,⟨rfl,rfl,trivial⟩,?_,hk [.cells (dO 1 b.1 0 false),.cells (gA b.1 b.2.1 b.2.2)]⟩) (λhb=>⟨?_,hk [.cells (dO 1 b.1 0 false),.cells (gA b.1 b.2.1 b.2.2)]⟩)⟩
 ·simp only [mq,hb,hpk,Bool.true_and];rfl
 ·simp only [mq,hb,hpk,Bool.false_and];rfl
theorem JT (h:MdA A i)(hy:∀l,rT (i.O 0) (i.O 1) y l=i.T l)(f:Fl)(now:Int)(tun:Bool)(v1 v2:Vd):VCx prog ae 0 GE [.ptr 119 0,.ptr 121 0,.ptr 122 0] (rT (i.O 0) (i.O 1) y (ei f now tun [.cells (cW v1),.cells (cW v2)])) λr T'=>r=.tup [.agg (cW (oy i now tun).1),.val (.bool (oy i now tun).2)]∧T'=rT (i.O 0) (i.O 1) y (ei f now tun [.cells (cW v1),.cells (cW v2)]):=by
 have hA:(rT (i.O 0) (i.O 1) y []).objs=A:=by rw [hy,h.hA]
 have hC:aQ prog ae (az [(zT,fS [.ptr 11 0,.val (.int .i64 now)] (.tup [iH (vY (dq i.L i.R now)),.val (.bool (wF (dq i.L i.R now)))]) λT=>T.objs.take 117=A)]):=aE λp hp=>by
  obtain rfl:=mem_singleton.1 hp
  exact gV λT hT=>Lt h hT now
 have hk:∀l,VT.keep (rT (i.O 0) (i.O 1) y (ei f now tun (.cells (cW v1):: .cells (cW v2)::l))) 127 0=rT (i.O 0) (i.O 1) y (ei f now tun [.cells (cW v1),.cells (cW v2)]):=λl=>uV h hy f now tun [v1,v2] l 127 rfl
 refine VCx.keepQ 127 0 (by rw [ib];exact le_refl _) (le_refl _) (ap ah ag hC ak (Lm _ _ y f now tun _ _ _ v1 v2 _) ?_)
 have pre:∀l,(rT (i.O 0) (i.O 1) y l).objs.take 117=A:=λl=>(mr _ _ y l).trans hA
 refine ⟨⟨rfl,rfl,pre (ei f now tun [.cells (cW v1),.cells (cW v2),.cells (dO 0 0 0 false)])⟩,aL (λhb=>⟨?_,hk [.cells (dO 2 0 (vY (dq i.L i.R now)).1 false),.cells (be (vY (dq i.L i.R now)))]⟩) (λhb=>⟨?_,hk [.cells (dO 2 0 (vY (dq i.L i.R now)).1 false),.cells (be (vY (dq i.L i.R now)))]⟩)⟩
 ·simp only [oy,hb,Bool.true_and];rfl
 ·simp only [oy,hb,Bool.false_and];rfl
theorem JU (h:MdA A i)(hT:T.objs.take 117=A)(f:Fl)(now:Int)(tun:Bool):VCx prog ae 0 JK [.ptr 6 0,.ptr 8 0,.ptr 11 0,.agg (au f),.val (.int .i64 now),.val (.bool tun)] T λr T'=>r=.agg (cW (fZ i f now tun))∧T'=T:=by
 rw [h.hA] at hT
 have nm:∀k,k<16→aj (List.range (16+i.m)) k=some k:=λk hk=>jV (by omega)
 refine Ao h.fl h.fix h.live ?_ (λ_ _=>rfl) ?_ hT
 ·simp only [av,TV.ren,nm 6 (by decide),nm 8 (by decide),nm 11 (by decide),au,bQ]
 ·obtain ⟨y,hy⟩:=BW i.O i.rg i.lk i.es i.ck i.now i.came i.went i.x
  have hy':∀l,rT (i.O 0) (i.O 1) y l=i.T l:=hy
  have hC:aQ prog ae (az [(GC,fS [.ptr 117 0,.ptr 120 0,.ptr 118 0] (.tup [.agg (cW (jW i f).1),.val (.bool (jW i f).2)]) λT=>T=rT (i.O 0) (i.O 1) y (ei f now tun [])),(GD,fS [.ptr 120 0,.ptr 118 0] (.tup [.agg (cW (mq i f).1),.val (.bool (mq i f).2)]) λT=>T=rT (i.O 0) (i.O 1) y (ei f now tun [.cells (cW (jW i f).1)])),(GE,fS [.ptr 119 0,.ptr 121 0,.ptr 122 0] (.tup [.agg (cW (oy i now tun).1),.val (.bool (oy i now tun).2)]) λT=>T=rT (i.O 0) (i.O 1) y (ei f now tun [.cells (cW (jW i f).1),.cells (cW (mq i f).1)]))]):=aE λp hp=>by
   simp only [mem_cons,not_mem_nil,or_false] at hp
   rcases hp with rfl | rfl | rfl
   ·exact gV λT hT=>by subst hT;exact JR h hy' f now tun
   ·exact gV λT hT=>by subst hT;exact JS h hy' f now tun _
   ·exact gV λT hT=>by subst hT;exact JT h hy' f now tun _ _
  have fin:∀(v:Vd) (l:List VO),v=fZ i f now tun→(TV.agg (cW v)=.agg (cW (fZ i f now tun))∧∃l',rT (i.O 0) (i.O 1) y l=fy i.O i.rg i.lk i.es i.ck i.now i.came i.went i.x l'):=λv l e=>⟨by rw [e],l,hy l⟩
  rw [←hy []]
  refine ap ah ag hC ak (Ln _ _ y f now tun _ _ _ _ _ _ _ _ _ _) ?_
  have hl:∀{P:TV→VT→Prop} {r:TV} {T T':VT},T=T'→P r T'→P r T:=λe h=>e▸h
  refine ⟨⟨rfl,rfl,rfl⟩,aL (λh1=> ?_) λh1=>⟨⟨rfl,rfl,rfl⟩,aL (λh2=> ?_) λh2=>⟨⟨rfl,rfl,rfl⟩,aL (λh3=> ?_) λh3=> ?_⟩⟩⟩
  ·exact ⟨by simp only [fZ,h1,cond_true];rfl,_,hy _⟩
  ·exact ⟨by simp only [fZ,h1,h2,cond_true,cond_false];rfl,_,hy _⟩
  ·exact ⟨by simp only [fZ,h1,h2,h3,cond_true,cond_false];rfl,_,hy _⟩
  ·exact ⟨by simp only [fZ,h1,h2,h3,cond_false];rfl,_,hy _⟩
end
end
def L0 (lt:Bool)(w:Wd):FuncId→Option ba:=az [(JL,wB),(DW,hJ [.agg w.cells] (.val (.bool lt))),(eR,λ_ _ _ _=>False)]
theorem Lv (w:Wd)(Q:TV→VT→Prop):aH prog ae cT bx 300 bo 0 DW [.agg w.cells] jk Q=
 (bif decide ((↑(length (Wd.B w)):Int)≤(40:Int))
 then (bif decide ((↑(length (Wd.S w)):Int)≤(40:Int))
 then Q (fh (decide ((↑(length (Wd.F w)):Int)≤(100:Int)))) ⟨[(jZ (Wd.pc w) (Wd.B w) (Wd.U w) (Wd.D w) (Wd.S w) (Wd.C w) (Wd.F w) (Wd.W w))],[]⟩
 else Q dG ⟨[(jZ (Wd.pc w) (Wd.B w) (Wd.U w) (Wd.D w) (Wd.S w) (Wd.C w) (Wd.F w) (Wd.W w))],[]⟩)
 else Q dG ⟨[(jZ (Wd.pc w) (Wd.B w) (Wd.U w) (Wd.D w) (Wd.S w) (Wd.C w) (Wd.F w) (Wd.W w))],[]⟩):=by kernel_rfl
set_option maxRecDepth 100000
section
open Go.RowKit Go.Maps Go.Sort
theorem JV (q:IntKind)(x y:Int):bN eql (am (.int q x) (.int q y))=decide (x=y):=by
 simp [bN,am,cG,Bool.beq_eq_decide_eq]
theorem pS (q:IntKind)(x y:Int):bN neq (am (.int q x) (.int q y))= !decide (x=y):=by
 simp [bN,am,cG,Bool.beq_eq_decide_eq]
theorem Lw {a b:VO}{y:Nat→VO}{i:MdI}(h:(rT a b y []).objs=(i.T []).objs)(l:List VO):rT a b y l=i.T l:=by
 have e:(rT a b y l).objs=(rT a b y []).objs++l:=by
  simp only [rT,cons_append,append_assoc,nil_append]
 have e2:(i.T l).objs=(i.T []).objs++l:=by
  simp only [MdI.T,fy,append_assoc,nil_append]
 show (⟨(rT a b y l).objs,[]⟩:VT)=⟨(i.T l).objs,[]⟩
 rw [e,e2,h]
section
variable {w:Wd}{f:Fl}{now:Int}{tun:Bool}
theorem JW (hw:pP w)(b:VO)(hb:∀g h,b.ren g h=b)(hl:b.live=true){X:(Nat→VO)→Prop}(hX:∀y i,MdA (rT (.cells w.cells) b y []).objs i→i.m≤100→i.O 0=.cells w.cells→i.O 1=b→X y):∀ro ys T K,LY w.cells (.cells w.cells) b X ro ys T K→VCx prog ae ro eR ys T K:=by
 rintro ro ys T K ⟨⟨rfl,rfl,rfl⟩,hk⟩
 let o:Nat→VO:=λi=>match i with
  | 0=>.cells w.cells
  | 1=>b
  |_=>.gone
 have ho:uS o:=λi hi f g=>by
  match i,hi with
  | 0,_=>exact yT hw f g
  | 1,_=>exact hb f g
  | 2,_=>rfl
  | 3,_=>rfl
  | 4,_=>rfl
  | 5,_=>rfl
  | 6,_=>rfl
  |k+7,hi=>omega
 refine (JJ (o:=o) ho hw).mono ?_
 rintro v T ⟨rfl,n,pm,sm,rm,u,q,r,rg,lk,es,ck,now,came,went,x,m,h⟩
 have hp:=h.hp
 have hs:=h.hs
 obtain ⟨plk,pes,pck,S,st,e1,p1⟩:=id hp
 obtain ⟨slk,ses,sck,rlk,res,rck,L,R,st2,e2,e3,s1,s2⟩:=id hs
 obtain ⟨y,hy⟩:=BW (yV o w n pm sm rm u q r) rg lk es ck now came went x
 obtain ⟨Lq,_,eq⟩:=h.hq
 obtain ⟨Lu,cu,gu,_,eu⟩:=h.hu
 obtain ⟨Sr,Rr,_,er⟩:=h.hr
 rw [h.hT,←hy []]
 refine hk y (hX y ⟨n,S,L,R,yV o w n pm sm rm u q r,rg,lk,es,ck,now,came,went,x,m⟩ ?_ h.m1 rfl rfl)
 obtain ⟨e0,a0,c0,g1,_⟩:=h.hf.ring 4 (.inl rfl)
 have g2:rg=cK e0 a0 c0:=by
  unfold lx at g1
  rw [fW (by decide)] at g1
  simpa [cj] using g1
 exact {
  hA:=congrArg VT.objs (hy [])
  fix:=HG (tH ho hw hp.ren hs.ren1 hs.ren2 h.hu.ren h.hq.ren h.hr.ren)
  live:=λv hv=>by
   simp only [cj,yV,fk,mem_cons,not_mem_nil,or_false] at hv
   rcases hv with rfl | rfl | rfl | rfl | rfl | rfl | rfl | rfl | rfl | rfl | rfl | rfl | rfl | rfl | rfl | rfl
   ·rfl
   ·exact hl
   ·rfl
   ·rfl
   ·rw [g2];rfl
   ·rfl
   ·rfl
   ·rw [e1];rfl
   ·rfl
   ·rw [e2];rfl
   ·rw [e3];rfl
   ·rfl
   ·rw [eu];rfl
   ·rw [eq];rfl
   ·rw [er];rfl
   ·rfl
  fl:=h.hf
  n1:=h.n1
  n2:=h.n2
  po:=⟨plk,pes,pck,st,rfl,e1,p1⟩
  si:=⟨slk,ses,sck,rlk,res,rck,st2,rfl,e2,e3,s1,s2⟩}
end
end
set_option maxRecDepth 100000
section
open Go.RowKit Go.Maps Go.Sort
section
variable {w:Wd}{f:Fl}{now:Int}{tun:Bool}
structure WdF (w:Wd):Prop where
 B:∃l:List Bk,w.B=l.map bd
 U:∃l:List Bool,w.U=l.map λb=> [.val (.bool b)]
 D:∃l:List Bool,w.D=l.map λb=> [.val (.bool b)]
 S:∃l:List Bk,w.S=l.map bd
 C:∃l:List Int,w.C=l.map λz=> [.val (.int .i64 z)]
 F:∃l:List Fl,w.F=l.map au
 W:∃l:List Int,w.W=l.map λz=> [.val (.int .i64 z)]
theorem WdF.ren {w:Wd}(h:WdF w)(f g:Nat→Option Nat):av f g w.cells=w.cells:=by
 obtain ⟨lB,hB⟩:=h.B
 obtain ⟨lU,hU⟩:=h.U
 obtain ⟨lD,hD⟩:=h.D
 obtain ⟨lS,hS⟩:=h.S
 obtain ⟨lC,hC⟩:=h.C
 obtain ⟨lF,hF⟩:=h.F
 obtain ⟨lW,hW⟩:=h.W
 simp only [Wd.cells,av,TV.ren,Tok.ren,hB,hU,hD,hS,hC,hF,hW,ez bd (λ_ _ _=>rfl),ez au (λ_ _ _=>rfl),ez (λb:Bool=> [TV.val (.bool b)]) (λ_ _ _=>rfl),ez (λz:Int=> [TV.val (.int .i64 z)]) (λ_ _ _=>rfl)]
def oz (w:Wd):Bool:=decide (w.B.length≤40)&&(decide (w.S.length≤40)&&decide (w.F.length≤100))
theorem WdF.ok {w:Wd}(h:WdF w)(hl:oz w=true):pP w:=by
 simp only [oz,Bool.and_eq_true,decide_eq_true_eq] at hl
 obtain ⟨l1,l2,l3⟩:=hl
 obtain ⟨lB,hB⟩:=h.B
 obtain ⟨lS,hS⟩:=h.S
 obtain ⟨lF,hF⟩:=h.F
 exact ⟨⟨lB,hB,by rw [hB,length_map] at l1;exact l1⟩,h.U,h.D,⟨lS,hS,by rw [hS,length_map] at l2;exact l2⟩,h.C,⟨lF,hF,by rw [hF,length_map] at l3;exact l3⟩,h.W⟩
theorem JX (w:Wd):VCx prog ae 0 DW [.agg w.cells] ⟨[],[]⟩ λr T'=>r=.val (.bool (oz w))∧T'=⟨[],[]⟩:=by
 refine VCx.keepQ 0 0 (le_refl _) (le_refl _) (ap ah ag aw ak (Lv w _) ?_)
 have cz:∀{a b:Nat},decide ((a:Int)≤(b:Int))=decide (a≤b):=λ{a b}=>by
  by_cases h:a≤b
  ·rw [decide_eq_true h,decide_eq_true (by omega)]
  ·rw [decide_eq_false h,decide_eq_false (by omega)]
 refine aL (λh1=>aL (λh2=>⟨?_,rfl⟩) (λh2=>⟨?_,rfl⟩)) (λh1=>⟨?_,rfl⟩)
 ·have h1':=cz.symm.trans h1
  have h2':=cz.symm.trans h2
  simp only [oz,h1',h2',Bool.true_and]
  exact congrArg (λq=>TV.val (.bool q)) cz
 ·have h1':=cz.symm.trans h1
  have h2':=cz.symm.trans h2
  simp only [oz,h1',h2',Bool.true_and,Bool.false_and];rfl
 ·have h1':=cz.symm.trans h1
  simp only [oz,h1',Bool.false_and];rfl
theorem GF (hw:WdF w):∀ro ys T K,hJ [.agg w.cells] (.val (.bool (oz w))) ro ys T K→VCx prog ae ro DW ys T K:=
 vG bg (by simp only [av,TV.ren,hw.ren]) (λ_ _=>rfl) (JX w)
end
end
set_option maxRecDepth 100000
section
open Go.RowKit Go.Maps Go.Sort
theorem BZ:o9 prog ae cT 6 []=True:=by kernel_rfl
theorem Aq:VCx prog ae 0 6 [] ⟨[],[]⟩ fc:=Bg ah ag aw BZ trivial
end
set_option maxRecDepth 100000
section
open Go.ChangeShapes Go.WideShapes Go.ChangeAt Go.RowKit Go.Joins Go.Deep
theorem GG {α:Type}(c:α→List TV):∀l:List (List TV),(∀e∈l,∃a,e=c a)→∃l':List α,l=l'.map c
 |[],_=>⟨[],rfl⟩
 |e::l,h=>by
  obtain ⟨a,rfl⟩:=h e List.mem_cons_self
  obtain ⟨l',rfl⟩:=GG c l λe' he'=>h e' (List.mem_cons_of_mem _ he')
  exact ⟨a::l',rfl⟩
def Fz:List SH:= [.int .i64,.int .u32,.int .i64]
def FA:List SH:= [.int .i64,.int .u32,.int .u32,.int .i64,.int .i64]
def JY:List SH:= [.int .i64,.slice Fz,.slice [.bool],.slice [.bool],.slice Fz,.slice [.int .i64],.slice FA,.slice [.int .i64]]
theorem GH {e:List TV}(h:cX [.int .i64] e):∃z:Int,e= [.val (.int .i64 z)]:=by
 obtain ⟨x,r,rfl,h1,h2⟩:=bC h
 obtain rfl:=iF h2
 obtain ⟨z,rfl,_⟩:=dY h1
 exact ⟨z,rfl⟩
theorem GI {e:List TV}(h:cX [.bool] e):∃z:Bool,e= [.val (.bool z)]:=by
 obtain ⟨x,r,rfl,h1,h2⟩:=bC h
 obtain rfl:=iF h2
 obtain ⟨z,rfl⟩:=CJ h1
 exact ⟨z,rfl⟩
theorem DX {e:List TV}(h:cX Fz e):∃b:Bk,e=bd b:=by
 obtain ⟨x1,r,rfl,h1,h⟩:=bC h
 obtain ⟨x2,r,rfl,h2,h⟩:=bC h
 obtain ⟨x3,r,rfl,h3,h⟩:=bC h
 obtain rfl:=iF h
 obtain ⟨a,rfl,_⟩:=dY h1
 obtain ⟨b,rfl,_⟩:=dY h2
 obtain ⟨c,rfl,_⟩:=dY h3
 exact ⟨(a,b,c),rfl⟩
theorem DY {e:List TV}(h:cX FA e):∃f:Fl,e=au f:=by
 obtain ⟨x1,r,rfl,h1,h⟩:=bC h
 obtain ⟨x2,r,rfl,h2,h⟩:=bC h
 obtain ⟨x3,r,rfl,h3,h⟩:=bC h
 obtain ⟨x4,r,rfl,h4,h⟩:=bC h
 obtain ⟨x5,r,rfl,h5,h⟩:=bC h
 obtain rfl:=iF h
 obtain ⟨a,rfl,_⟩:=dY h1
 obtain ⟨b,rfl,_⟩:=dY h2
 obtain ⟨c,rfl,_⟩:=dY h3
 obtain ⟨d,rfl,_⟩:=dY h4
 obtain ⟨g,rfl,_⟩:=dY h5
 exact ⟨(a,b,c,d,g),rfl⟩
theorem gD {α:Type}{es:List SH}{c:α→List TV}{x:TV}(hc:∀e,cX es e→∃a,e=c a)(h:SH.Fits (.slice es) x):∃l:List α,x=.vec es.length (l.map c) .none:=by
 obtain ⟨l,rfl,_,hl⟩:=Bh h
 obtain ⟨l',rfl⟩:=GG c l λe he=>hc e (hl e he)
 exact ⟨l',rfl⟩
theorem JZ {xs:List TV}(h:cX JY xs):∃w:Wd,xs=w.cells∧WdF w:=by
 obtain ⟨x1,r,rfl,h1,h⟩:=bC h
 obtain ⟨x2,r,rfl,h2,h⟩:=bC h
 obtain ⟨x3,r,rfl,h3,h⟩:=bC h
 obtain ⟨x4,r,rfl,h4,h⟩:=bC h
 obtain ⟨x5,r,rfl,h5,h⟩:=bC h
 obtain ⟨x6,r,rfl,h6,h⟩:=bC h
 obtain ⟨x7,r,rfl,h7,h⟩:=bC h
 obtain ⟨x8,r,rfl,h8,h⟩:=bC h
 obtain rfl:=iF h
 obtain ⟨p,rfl,_⟩:=dY h1
 obtain ⟨lB,rfl⟩:=gD (c:=bd) (λe he=>DX he) h2
 obtain ⟨lU,rfl⟩:=gD (c:=λb:Bool=> [TV.val (.bool b)]) (λe he=>GI he) h3
 obtain ⟨lD,rfl⟩:=gD (c:=λb:Bool=> [TV.val (.bool b)]) (λe he=>GI he) h4
 obtain ⟨lS,rfl⟩:=gD (c:=bd) (λe he=>DX he) h5
 obtain ⟨lC,rfl⟩:=gD (c:=λz:Int=> [TV.val (.int .i64 z)]) (λe he=>GH he) h6
 obtain ⟨lF,rfl⟩:=gD (c:=au) (λe he=>DY he) h7
 obtain ⟨lW,rfl⟩:=gD (c:=λz:Int=> [TV.val (.int .i64 z)]) (λe he=>GH he) h8
 exact ⟨⟨p,_,_,_,_,_,_,_⟩,rfl,⟨lB,rfl⟩,⟨lU,rfl⟩,⟨lD,rfl⟩,⟨lS,rfl⟩,⟨lC,rfl⟩,⟨lF,rfl⟩,⟨lW,rfl⟩⟩
theorem HH {H:Type}{enc:TypeId × Value→H}{w:World}{b0 base:Nat}{held:Bool}{v:Value}{d:DataW H}{p:List MemPlace}
  (hv:Value.okWide prog w .any b0 28 v) (h:DataW.Trod enc prog w base (λ_=>true) held 28 v d p):∃m:Wd,VR (io w) w (.agg m.cells) v∧WdF m:=by
 obtain ⟨xs,h1,h2⟩:=pi (n:=9) (ss:=JY) (by kernel_rfl) Tryz.underlying28 hv h
 obtain ⟨m,rfl,hm⟩:=JZ h2
 exact ⟨m,h1,hm⟩
end
set_option maxRecDepth 100000
def dK (f1 f2:Nat→Option Nat):Nat→Option Nat:=λi=>(f1 i).bind f2
theorem FB (f1 h1 f2 h2:Nat→Option Nat)(t:Tok):(t.ren f1 h1).ren f2 h2=t.ren (dK f1 f2) (dK h1 h2):=by
 cases t with
 |tail k e=>
  simp only [Tok.ren,dK]
  cases h:h1 k with
  |none=>rfl
  |some k'=>rfl
 |past id off=>
  simp only [Tok.ren,dK]
  cases h:f1 id with
  |none=>rfl
  |some k'=>rfl
 |_=>rfl
mutual
theorem nk (f1 h1 f2 h2:Nat→Option Nat):∀x:TV,(x.ren f1 h1).ren f2 h2=x.ren (dK f1 f2) (dK h1 h2)
 | .val v=>rfl
 | .ptr id off=>by
  simp only [TV.ren,dK]
  cases f1 id with
  |none=>rfl
  |some k'=>rfl
 | .vec s es t=>by simp only [TV.ren,tL f1 h1 f2 h2 es,FB]
 | .elt cs=>by simp only [TV.ren,dP f1 h1 f2 h2 cs]
 | .sl id off n c=>by
  simp only [TV.ren,dK]
  cases f1 id with
  |none=>rfl
  |some k'=>rfl
 | .agg cs=>by simp only [TV.ren,dP f1 h1 f2 h2 cs]
 | .tup cs=>by simp only [TV.ren,dP f1 h1 f2 h2 cs]
 | .fn fn a b=>by simp only [TV.ren,dP f1 h1 f2 h2 a,dP f1 h1 f2 h2 b]
 | .ifc t v=>by simp only [TV.ren,nk f1 h1 f2 h2 v]
 | .row s id off n=>by
  simp only [TV.ren,dK]
  cases f1 id with
  |none=>rfl
  |some k'=>rfl
 | .map id=>by
  simp only [TV.ren,dK]
  cases f1 id with
  |none=>rfl
  |some k'=>rfl
 | .yld id=>by
  simp only [TV.ren,dK]
  cases f1 id with
  |none=>rfl
  |some k'=>rfl
 | .dead=>rfl
theorem dP (f1 h1 f2 h2:Nat→Option Nat):∀l:List TV,av f2 h2 (av f1 h1 l)=av (dK f1 f2) (dK h1 h2) l
 |[]=>rfl
 |x::r=>by simp only [av,nk f1 h1 f2 h2 x,dP f1 h1 f2 h2 r]
theorem tL (f1 h1 f2 h2:Nat→Option Nat):∀l:List (List TV),bL f2 h2 (bL f1 h1 l)=bL (dK f1 f2) (dK h1 h2) l
 |[]=>rfl
 |x::r=>by simp only [bL,dP f1 h1 f2 h2 x,tL f1 h1 f2 h2 r]
end
theorem qC (f1 h1 f2 h2:Nat→Option Nat)(o:VO):(o.ren f1 h1).ren f2 h2=o.ren (dK f1 f2) (dK h1 h2):=by
 cases o with
 |cells cs=>simp only [VO.ren,dP]
 |row cs=>simp only [VO.ren,dP]
 |map sh look es ck=>
  simp only [VO.ren,map_map]
  congr 1
  ·funext k
   cases look k with
   |none=>rfl
   |some v=>simp only [map_some,nk]
  ·exact List.map_congr_left λe _=>by simp only [comp,nk]
 |iter m since seen stepped=>simp only [VO.ren,nk]
 |loop st pend σ ps asg body=>simp only [VO.ren,dP]
 |_=>rfl
def Shut (k:Nat)(o:VO):Prop:=∀f g:Nat→Option Nat,(∀j,j<k→f j=some j)→o.ren f g=o
theorem Shut.agree {k:Nat}{o:VO}(h:Shut k o){f1 f2 g1 g2:Nat→Option Nat}(hf:∀j,j<k→f1 j=f2 j):o.ren f1 g1=o.ren f2 g2:=by
 let f0:Nat→Option Nat:=λj=>if j<k then some j else none
 have h0:o.ren f0 (λ_=>none)=o:=h f0 _ λj hj=>if_pos hj
 have e:dK f0 f1=dK f0 f2:=by
  funext j
  simp only [dK,f0]
  split
  ·rename_i hj;simp only [Option.bind_some,hf j hj]
  ·rfl
 have e2:dK (λ_=>none) g1=dK (λ_=>none) g2:=rfl
 rw [←h0,qC,qC,e,e2]
theorem tM {is:List Nat}(hn:is.Nodup){p i:Nat}(h:is[p]?=some i):aj is i=some p:=by
 unfold aj
 rw [List.idxOf?_eq_some_iff]
 obtain ⟨hp,rfl⟩:=List.getElem?_eq_some_iff.1 h
 refine ⟨hp,rfl,λj hj e=> ?_⟩
 have hj':j<p:=hj
 exact List.pairwise_iff_getElem.1 hn j p (by omega) hp hj' (by simpa using e)
def bX (n:Nat)(is:List Nat)(len:Nat):List Nat:=is++(List.range (len-is.length)).map (n+ ·)
theorem pU {n len:Nat}{is:List Nat}(hl:is.length≤len){p:Nat}(hp:p<len):(bX n is len)[p]?=an n is p:=by
 unfold bX an
 by_cases h:p<is.length
 ·rw [if_pos h,getElem?_append_left h]
 ·rw [if_neg h,List.getElem?_append_right (by omega),getElem?_map,getElem?_range (by omega)];rfl
theorem gE {n len:Nat}{is:List Nat}(hl:is.length≤len):(bX n is len).length=len:=by
 unfold bX
 rw [length_append,length_map,length_range];omega
theorem rp {n len:Nat}{is:List Nat}(hn:is.Nodup)(hl:∀i∈is,i<n):(bX n is len).Nodup:=by
 unfold bX
 refine nodup_append.2 ⟨hn,?_,λa ha b hb e=> ?_⟩
 ·exact List.Pairwise.map _ (λa b h=>by simp only [ne_eq] at h ⊢;omega) nodup_range
 ·obtain ⟨c,_,rfl⟩:=mem_map.1 hb
  have:=hl a ha
  omega
section
variable {T:VT}{is:List Nat}{L:List VO}
theorem qD (hn:is.Nodup)(hl:∀i∈is,i<T.objs.length)(hlen:is.length≤L.length){p i:Nat}(h:(bX T.objs.length is L.length)[p]?=some i):(T.back is [] ⟨L,[]⟩).objs[i]?=(L[p]?).map (VO.ren (an T.objs.length is) (an T.tails.length [])):=by
 obtain ⟨_,_,b3,b4⟩:=eJ is T.objs (L.map (VO.ren (an T.objs.length is) (an T.tails.length []))) hn hl (by simpa using hlen)
 have hp:p<L.length:=by
  have:=(List.getElem?_eq_some_iff.1 h).1
  rwa [gE hlen] at this
 rw [pU hlen hp] at h
 unfold an at h
 simp only [VT.back]
 rw [←getElem?_map]
 by_cases h1:p<is.length
 ·rw [if_pos h1] at h
  exact b3 p i h
 ·rw [if_neg h1] at h
  injection h with h
  subst h
  rw [b4]
  congr 1
  omega
theorem DZ (hn:is.Nodup)(hl:∀i∈is,i<T.objs.length)(hlen:is.length≤L.length)(hs:∀o∈L,Shut L.length o):(T.back is [] ⟨L,[]⟩).give (bX T.objs.length is L.length) []=⟨L,[]⟩:=by
 simp only [VT.give,map_nil]
 congr 1
 apply ext_getElem?
 intro p
 rw [getElem?_map]
 cases h:(bX T.objs.length is L.length)[p]? with
 |none=>
  rw [List.getElem?_eq_none_iff,gE hlen] at h
  rw [getElem?_eq_none h];rfl
 |some i=>
  have hp:p<L.length:=by
   have:=(List.getElem?_eq_some_iff.1 h).1
   rwa [gE hlen] at this
  have e1:=qD hn hl hlen h
  have e2:L[p]?=some L[p]:=getElem?_eq_getElem hp
  simp only [VT.back] at e1
  simp only [map_some]
  simp only [VT.back,e1,e2,map_some,getD_some,qC]
  congr 1
  refine hs _ (getElem_mem hp) _ _ λj hj=> ?_
  have h3:(bX T.objs.length is L.length)[j]?=an T.objs.length is j:=pU hlen hj
  have h4:∃k,(bX T.objs.length is L.length)[j]?=some k:=⟨_,getElem?_eq_getElem (by rw [gE hlen];exact hj)⟩
  obtain ⟨k,hk⟩:=h4
  simp only [dK,←h3,hk,Option.bind_some]
  exact tM (rp hn hl) hk
theorem D0 (hn:is.Nodup)(hl:∀i∈is,i<T.objs.length)(hlen:is.length≤L.length)(hs:∀o∈L,Shut L.length o){i:Nat}(hi:i∈bX T.objs.length is L.length){o:VO}(ho:(T.back is [] ⟨L,[]⟩).objs[i]?=some o)(f g:Nat→Option Nat)(hf:∀j∈bX T.objs.length is L.length,f j=some j):o.ren f g=o:=by
 obtain ⟨p,hp⟩:=mem_iff_getElem?.1 hi
 rw [qD hn hl hlen hp] at ho
 cases h:L[p]? with
 |none=>rw [h] at ho;cases ho
 |some q=>
  rw [h] at ho
  injection ho with ho
  subst ho
  rw [qC]
  refine (hs q (mem_of_getElem? h)).agree λj hj=> ?_
  have h3:(bX T.objs.length is L.length)[j]?=an T.objs.length is j:=pU hlen hj
  obtain ⟨k,hk⟩:∃k,(bX T.objs.length is L.length)[j]?=some k:=⟨_,getElem?_eq_getElem (by rw [gE hlen];exact hj)⟩
  simp only [dK,←h3,hk,Option.bind_some]
  exact hf k (mem_of_getElem? hk)
end
set_option maxRecDepth 100000
section
open Go.RowKit Go.Maps Go.Sort
def MdI.Z (i:MdI):VT:=fz i.O i.rg i.lk i.es i.ck i.now i.came i.went i.x i.m
abbrev MdB (i:MdI):Prop:=MdA (i.T []).objs i
theorem ii (i:MdI):i.Z.objs.length=16+i.m:=pR
theorem GJ {i:MdI}(h:MdB i)(f g:Nat→Option Nat)(hf:∀j,j<16+i.m→f j=some j):i.Z.objs.map (VO.ren f g)=i.Z.objs:=uT h.fl h.fix f g hf
theorem D3 {i:MdI}(h:MdB i):∀o∈i.Z.objs,Shut i.Z.objs.length o:=λo ho f g hf=>by
 have e:=GJ h f g (by rw [ii] at hf;exact hf)
 obtain ⟨p,hp⟩:=mem_iff_getElem?.1 ho
 have e2:=congrArg (λl=>l[p]?) e
 simp only [getElem?_map,hp,map_some] at e2
 injection e2
theorem yX {i:MdI}(h:MdB i):∀o∈i.Z.objs,o.live=true:=λo ho=>by
 rcases List.mem_append.1 ho with ho | ho
 ·exact h.live o ho
 ·obtain ⟨j,hj,rfl⟩:=mem_map.1 ho
  obtain ⟨e,a,c,q1,q2,_⟩:=pJ h.fl (mem_range.1 hj) i.O i.lk i.es i.ck i.now i.came i.went []
  rw [q2];rfl
structure AtL (T:VT) (is:List Nat) (i:MdI):Prop where
 nds:is.Nodup
 len:is.length=16+i.m
 low:∀j,j<16→is[j]?=some j
 lives:∀j∈is,∃o,T.objs[j]?=some o∧o.live=true
 give:T.give is []=i.Z
theorem AtL.lt {T:VT}{is:List Nat}{i:MdI}(h:AtL T is i):∀j∈is,j<T.objs.length:=λj hj=>by
 obtain ⟨o,ho,_⟩:=h.lives j hj
 exact (List.getElem?_eq_some_iff.1 ho).1
theorem AtL.name {T:VT}{is:List Nat}{i:MdI}(h:AtL T is i){j:Nat}(hj:j<16):aj is j=some j:=tM h.nds (h.low j hj)
section
variable {T:VT}{is:List Nat}{i i':MdI}
theorem uW (h:AtL T is i){n len:Nat}{j:Nat}(hj:j<is.length):(bX n is len)[j]?=is[j]?:=by
 unfold bX
 rw [getElem?_append_left hj]
theorem yY (h:AtL T is i)(h2:MdB i')(hm:i.m≤i'.m):AtL (T.back is [] i'.Z) (bX T.objs.length is (16+i'.m)) i':=by
 have hlen:is.length≤i'.Z.objs.length:=by rw [ii,h.len];omega
 have hz:i'.Z=⟨i'.Z.objs,[]⟩:=rfl
 have hl2:=ii i'
 have g:=DZ h.nds h.lt hlen (D3 h2)
 rw [hl2] at g hlen
 refine ⟨rp h.nds h.lt,gE hlen,λj hj=> ?_,λj hj=> ?_,g⟩
 ·rw [uW h (by rw [h.len];omega)];exact h.low j hj
 ·obtain ⟨p,hp⟩:=mem_iff_getElem?.1 hj
  have hb:=qD (T:=T) (L:=i'.Z.objs) h.nds h.lt (by rw [hl2];exact hlen) (p:=p) (i:=j) (by rw [hl2];exact hp)
  have hpl:p<i'.Z.objs.length:=by
   have:=(List.getElem?_eq_some_iff.1 hp).1
   rw [gE hlen] at this
   rw [hl2];exact this
  have e:=getElem?_eq_getElem hpl
  rw [e,map_some] at hb
  refine ⟨_,hb,?_⟩
  rw [VO.ren_live]
  exact yX h2 _ (getElem_mem hpl)
theorem pV (h:AtL T is i){f:FuncId}{xs:List TV}(hx:av (aj is) (aj []) xs=xs){R:TV→MdI→Prop}(hR:∀x i',R x i'→(∀f g,x.ren f g=x)∧MdB i'∧i.m≤i'.m)
  (hv:VCx prog ae 0 f xs i.Z λx T'=>∃i',R x i'∧T'=i'.Z):VCx prog ae 0 f xs T λx T'=>∃i',R x i'∧T'=T.back is [] i'.Z∧AtL T' (bX T.objs.length is (16+i'.m)) i':=by
 refine (VCx.lift (xs:=xs) is [] bg h.nds nodup_nil h.lives (by simp) (λ_ _=>zero_le _) hx (by rw [h.give];exact hv) (λx T' hq=> ?_)).mono ?_
 ·obtain ⟨i',hr,rfl⟩:=hq
  have:=(hR _ _ hr).2.2
  exact ⟨by rw [ii,h.len];omega,zero_le _⟩
 ·rintro x T' ⟨y,T2,⟨i',hr,rfl⟩,rfl,rfl⟩
  obtain ⟨h1,h2,h3⟩:=hR _ _ hr
  exact ⟨i',by rw [h1];exact hr,rfl,yY h h2 h3⟩
theorem od (h:AtL T is i)(hm:i.m≤i'.m):(T.back is [] i'.Z).objs.length=T.objs.length+(i'.m-i.m)∧(T.back is [] i'.Z).tails=T.tails∧∀j,j<T.objs.length→j∉is→(T.back is [] i'.Z).objs[j]?=T.objs[j]?:=by
 have hlen:is.length≤i'.Z.objs.length:=by rw [ii,h.len];omega
 obtain ⟨g1,g2,_,_⟩:=eJ is T.objs (i'.Z.objs.map (VO.ren (an T.objs.length is) (an T.tails.length []))) h.nds h.lt (by simpa using hlen)
 refine ⟨?_,?_,g2⟩
 ·have e:(T.back is [] i'.Z).objs.length=T.objs.length+((i'.Z.objs.map (VO.ren (an T.objs.length is) (an T.tails.length []))).length-is.length):=g1
  rw [e,length_map,ii,h.len];omega
 ·simp only [VT.back,MdI.Z,fz,aT,append_nil]
theorem jq (h:AtL T is i)(hm:i.m≤i'.m){j:Nat}(hj:j<16){o:VO}(ho:(cj i'.O i'.rg i'.lk i'.es i'.ck i'.now i'.came i'.went)[j]?=some o)(hr:∀f g,o.ren f g=o):(T.back is [] i'.Z).objs[j]?=some o:=by
 have hlen:is.length≤i'.Z.objs.length:=by rw [ii,h.len];omega
 have hj2:(bX T.objs.length is i'.Z.objs.length)[j]?=some j:=by
  rw [uW h (by rw [h.len];omega)];exact h.low j hj
 have hb:=qD (T:=T) (L:=i'.Z.objs) h.nds h.lt hlen hj2
 have e:i'.Z.objs[j]?=some o:=by
  simp only [MdI.Z,fz]
  rw [getElem?_append_left (by rw [bB];exact hj)];exact ho
 rw [e,map_some,hr] at hb
 exact hb
def Cl (N:Nat)(T:VT):Prop:=∀o∈T.objs,Shut N o
theorem HI {N:Nat}(hc:Cl N T)(h:AtL T is i)(h2:MdB i')(hm:i.m≤i'.m)(hN:∀j∈bX T.objs.length is (16+i'.m),j<N):Cl N (T.back is [] i'.Z):=λo ho f g hf=>by
 have hlen:is.length≤i'.Z.objs.length:=by rw [ii,h.len];omega
 obtain ⟨p,hp⟩:=mem_iff_getElem?.1 ho
 by_cases hin:p∈bX T.objs.length is (16+i'.m)
 ·exact D0 (T:=T) (L:=i'.Z.objs) h.nds h.lt hlen (D3 h2) (i:=p) (by rw [ii];exact hin) hp f g λj hj=>hf j (hN j (by rw [ii] at hj;exact hj))
 ·obtain ⟨b1,b2,b3⟩:=od h hm
  have hpl:=(List.getElem?_eq_some_iff.1 hp).1
  rw [b1] at hpl
  have hni:p∉is:=λk=>hin (by unfold bX;exact List.mem_append_left _ k)
  rcases lt_or_ge p T.objs.length with h4 | h4
  ·rw [b3 p h4 hni] at hp
   exact hc o (mem_of_getElem? hp) f g hf
  ·refine absurd ?_ hin
   unfold bX
   refine List.mem_append_right _ (mem_map.2 ⟨p-T.objs.length,mem_range.2 ?_,by omega⟩)
   rw [h.len];omega
theorem jr (h:MdB i)(ht:T.objs.take 117=(i.T []).objs):AtL T (List.range (16+i.m)) i:=by
 have hm:=h.fl.hn
 have hlen:117≤T.objs.length:=by
  have:=congrArg length ht
  rw [MdI.T,ed,List.length_take] at this
  simp only [length_nil] at this
  omega
 have hk:T.objs.take (16+i.m)=i.Z.objs:=by
  have e:=congrArg (List.take (16+i.m)) ht
  rw [MdI.T,kN hm,List.take_take,Nat.min_eq_left (by omega)] at e
  exact e
 refine ⟨nodup_range,length_range,λj hj=>getElem?_range (by omega),λj hj=> ?_,?_⟩
 ·have hj:=mem_range.1 hj
  have e1:T.objs[j]?=i.Z.objs[j]?:=by rw [←hk,getElem?_take,if_pos hj]
  have e2:=getElem?_eq_getElem (l:=i.Z.objs) (i:=j) (by rw [ii];exact hj)
  exact ⟨_,e1.trans e2,yX h _ (getElem_mem _)⟩
 ·simp only [VT.give,map_nil]
  show (⟨_,[]⟩:VT)=⟨i.Z.objs,[]⟩
  congr 1
  rw [mm (VO.ren (aj (List.range (16+i.m))) (aj [])) .gone (16+i.m) _ (by omega),hk]
  exact GJ h _ _ λj hj=>jV hj
theorem tN {f:FuncId}{xs:List TV}{k:Nat}{R:TV→MdI→Prop}(hR:∀x i',R x i'→∀f g,x.ren f g=x)(h:VCx prog ae 0 f xs (i.Z.pad k) λx T'=>∃i' is,R x i'∧AtL T' is i'∧∀j,j<16+i.m→is[j]?=some j):VCx prog ae 0 f xs i.Z λx T'=>∃i',R x i'∧T'=i'.Z:=by
 refine VCx.pick (VCx.pad k (h.mono ?_))
 rintro x T' ⟨i',is,hr,ha,hp⟩
 refine ⟨is,[],⟨ha.nds,nodup_nil,ha.lt,by simp,λj hj=>hp j (by rw [ii] at hj;exact hj),λj hj=>absurd hj (Nat.not_lt_zero j)⟩,i',?_,ha.give⟩
 rw [hR _ _ hr];exact hr
theorem wH {k:Nat}(h:MdB i)(l:List VO)(hl:l=List.replicate k .gone):i.Z.pad (101-i.m+k)=i.T l:=by
 have e:=tJ (O:=i.O) (rg:=i.rg) (lk:=i.lk) (es:=i.es) (ck:=i.ck) (now:=i.now) (came:=i.came) (went:=i.went) h.fl.hn h.fl.none
 have e2:i.Z.pad (101-i.m+k)=(i.Z.pad (101-i.m)).pad k:=by simp only [VT.pad,append_assoc,List.replicate_append_replicate]
 rw [e2,show i.Z.pad (101-i.m)=_ from e]
 simp only [VT.pad,MdI.T,fy,append_nil,append_assoc,hl]
end
end
set_option maxRecDepth 100000
section
open Go.RowKit Go.Maps Go.Sort
section
variable {S:List Mb}{z b:Int}{g:Mb→Mb}
theorem uX (hk:∀m,aS (g m)=aS m)(hu:b≠z∨∀m,(g m).2.1=m.2.1):(bq (iI S z g) b).2.1=(bq S b).2.1:=by
 unfold iI
 cases hm:dB aS S z with
 |none=>rfl
 |some m=>
  have hz:aS m=z:=by simpa using find?_some hm
  have e:dB aS (fw aS (g m) S) b=(dB aS S b).map λs=>bif aS s==aS (g m) then g m else s:=md (g m) (λk=>k==b) S
  simp only [bq,e]
  cases hb:dB aS S b with
  |none=>rfl
  |some s=>
   have hs:aS s=b:=by simpa using find?_some hb
   simp only [map_some,getD_some,hk,hs,hz]
   by_cases hbz:b=z
   ·subst hbz
    rw [hm] at hb
    injection hb with hb
    subst hb
    rcases hu with hu | hu
    ·exact absurd rfl hu
    ·rw [beq_self_eq_true,cond_true,hu]
   ·rw [beq_eq_false_iff_ne.2 hbz,cond_false]
theorem J0:(bq (iI S z (ra false)) z).2.1=false:=by
 unfold iI
 cases hm:dB aS S z with
 |none=>simp only [bq,hm];rfl
 |some m=>
  have hz:aS m=z:=by simpa using find?_some hm
  have e:dB aS (fw aS (ra false m) S) z=(dB aS S z).map λs=>bif aS s==aS (ra false m) then ra false m else s:=md (ra false m) (λk=>k==z) S
  have hk:aS (ra false m)=aS m:=rfl
  simp only [bq,e,hm,map_some,getD_some,hk,beq_self_eq_true,cond_true]
  rfl
theorem HJ (hd:(S.map aS).Nodup){x:Bk}(h:x∈dI S):(bq S x.1).2.1=true:=by
 obtain ⟨mb,r1,r2,r3⟩:=(EZ hd).1 h
 have r4:dB aS S x.1=some mb:=by rw [←r2];exact mg hd r1
 simp only [bq,r4,getD_some]
 simp only [lh,dv,Bool.and_eq_true] at r3
 exact r3.1.1
theorem HK (q:Int)(m:Mb):aS (rc q m)=aS m:=by
 unfold rc
 cases decide (0≤q∧q≤100)<;>rfl
theorem J1 (q:Int)(m:Mb):(rc q m).2.1=m.2.1:=by
 unfold rc
 cases decide (0≤q∧q≤100)<;>rfl
end
section
variable {T:VT}{is:List Nat}{i:MdI}
def dQ (i:MdI)(f:Fl):Option Int:=(fY i.lk i.x f).map (·.2.1)
theorem MdB.next (h:MdB i){rg:VO}{lk:Value→Option TV}{es:Es}{x:Nat→VO}{m:Nat}(hf:FlS m rg lk es x)(ck:Nat)(now came went:Int):MdB {i with rg:=rg,lk:=lk,es:=es,ck:=ck,now:=now,came:=came,went:=went,x:=x,m:=m} where
 hA:=rfl
 fix:=h.fix
 live:=λv hv=>by
  obtain ⟨e0,a0,c0,g1,_⟩:=hf.ring 4 (.inl rfl)
  have g2:rg=cK e0 a0 c0:=by
   unfold lx at g1
   rw [fW (by decide)] at g1
   simpa [cj] using g1
  simp only [cj,mem_cons,not_mem_nil,or_false] at hv
  rcases hv with rfl | rfl | rfl | rfl | rfl | rfl | rfl | rfl | rfl | rfl | rfl | rfl | rfl | rfl | rfl | rfl
  all_goals first
   |rfl
   | (rw [g2];rfl)
   | (refine h.live _ ?_;simp [cj];done)
 fl:=hf
 n1:=h.n1
 n2:=h.n2
 po:=h.po
 si:=h.si
theorem nl {O:Nat→VO}{rg:VO}{lk:Value→Option TV}{es:Es}{ck:Nat}{now came went:Int}{x:Nat→VO}{l:List VO}:(fy O rg lk es ck now came went x l).objs.take 117=(fy O rg lk es ck now came went x []).objs:=by
 have e:(fy O rg lk es ck now came went x l).objs=(fy O rg lk es ck now came went x []).objs++l:=by simp only [fy,append_assoc,nil_append]
 rw [e,take_left']
 rw [ed];rfl
theorem J2 (i:MdI)(l:List VO):(i.T l).objs.take 117=(i.T []).objs:=nl
theorem zk {T:VT}(h2:MdB i)(hn:is.Nodup)(hl:is.length=16+i.m)(hlow:∀j,j<16→is[j]?=some j)(hg:T.give is []=i.Z):AtL T is i:=by
 refine ⟨hn,hl,hlow,λj hj=> ?_,hg⟩
 obtain ⟨p,hp⟩:=mem_iff_getElem?.1 hj
 have e:=congrArg (λT:VT=>T.objs[p]?) hg
 simp only [VT.give,getElem?_map,hp,map_some] at e
 have hl2:=yX h2 _ (mem_of_getElem? e.symm)
 rw [VO.ren_live] at hl2
 cases ho:T.objs[j]? with
 |none=>rw [ho] at hl2;cases hl2
 |some o=>rw [ho] at hl2;exact ⟨o,rfl,hl2⟩
structure J3 (i:MdI) (f:Fl) (b:Int) (x:TV) (i':MdI):Prop where
 x1:∃(en:En) (q:Bool),x=.tup [.agg (aO en),.val (.bool q)]
 ok:MdB i'
 eS:i'.S=i.S
 eO:i'.O=i.O
 m0:i.m≤i'.m
 m1:i'.m≤i.m+1
 mkn:(dQ i f).isSome=true→i'.m=i.m
 bk:dQ i' f=some b
theorem Mn (h:MdB i)(f:Fl)(b now:Int)(hm:i.m≤100∨(dQ i f).isSome=true):VCx prog ae 0 pG [.ptr 6 0,.agg (au f),.val (.int .i64 b),.val (.int .i64 now)] i.Z λx T'=>∃i',J3 i f b x i'∧T'=i'.Z:=by
 refine tN (k:=101-i.m+1) (λx i' hr=>by obtain ⟨en,q,rfl⟩:=hr.x1;exact λ_ _=>rfl) ?_
 rw [wH h [.gone] rfl]
 have hz:r6 [VO.gone]:=λz hz f g=>by rw [mem_singleton.1 hz];rfl
 cases hl:i.lk (da f) with
 |some v=>
  obtain ⟨j,hj,rfl⟩:=h.fl.map _ _ hl
  obtain ⟨rg3,x3,now3,h3,⟨e,a,c,hx,hb⟩,hv⟩:=Af (ck:=i.ck) (now:=i.now) (came:=i.came) (went:=i.went) (z:=.gone) (b:=b) (m:=now) h.fl h.fix hz hj hl
  refine hv.mono ?_
  rintro r T' ⟨⟨en,q,rfl⟩,rfl⟩
  have h4:=h.next h3 i.ck now3 i.came i.went
  refine ⟨_,List.range (16+i.m),⟨⟨en,q,rfl⟩,h4,rfl,rfl,le_refl _,Nat.le_succ _,λ_=>rfl,?_⟩,jr h4 nl,λj hj=>getElem?_range hj⟩
  simp only [dQ,fY,hl,map_some,Nat.add_sub_cancel_left,hx,cK,yW,hb]
 |none=>
  have hm1:i.m<101:=by
   rcases hm with hm | hm
   ·omega
   ·simp [dQ,fY,hl] at hm
  obtain ⟨rg3,lk3,es3,ck3,now3,came3,went3,x3,l,b1,b2,b3,hmap,hg,hf3,hr,⟨e,u,v,hle,hb⟩,hv⟩:=yJ (ck:=i.ck) (now:=i.now) (came:=i.came) (went:=i.went) (z:=.gone) (b:=b) (m:=now) h.fl h.fix hz hl
  refine hv.mono ?_
  rintro r T' ⟨⟨en,q,rfl⟩,rfl⟩
  have hnew:mo i.m rg3 lk3 es3 x3 l:=⟨hmap,hg,lz hr λq hq=>by
   rcases hq with hq | rfl
   ·exact rZ h.fl.hn hq
   ·rw [show (121:Nat)=117+4 from rfl,fX,fX];rfl⟩
  obtain ⟨rg1,lk1,es1,x1,h1,e1,hk1,F,G,hx1⟩:=wc (ck:=ck3) (now:=now3) (came:=came3) (went:=went3) hm1 hnew h.fix .gone b1 b2 b3
  have h4:=h.next h1 ck3 now3 came3 went3
  refine ⟨_,List.range (16+i.m)++ [121],⟨⟨en,q,rfl⟩,h4,rfl,rfl,Nat.le_succ _,le_refl _,λhs=> ?_,?_⟩,zk h4 ?_ ?_ (λj hj=> ?_) e1,λj hj=> ?_⟩
  ·simp [dQ,fY,hl] at hs
  ·simp only [dQ,fY,hk1 _ hf3,map_some,Nat.add_sub_cancel_left,hx1,hle]
   simp only [de,aO,i5,au,bQ,VO.ren,av,cons_append,nil_append,TV.ren,JO,hb]
  ·refine nodup_append.2 ⟨nodup_range,by simp,λa ha b hb e=> ?_⟩
   have:=mem_range.1 ha
   rw [mem_singleton.1 hb] at e;omega
  ·simp only [length_append,length_range,length_cons,length_nil];omega
  ·rw [getElem?_append_left (by simp;omega)];exact getElem?_range (by omega)
  ·rw [getElem?_append_left (by simpa using hj)];exact getElem?_range hj
structure L2 (i:MdI) (z:Int) (g:Mb→Mb) (x:TV) (i':MdI):Prop where
 x1:∃c:Int,x=.val (.int .i64 c)
 ok:MdB i'
 eS:i'.S=iI i.S z g
 e0:i'.O 0=i.O 0
 e1:i'.O 1=i.O 1
 em:i'.m=i.m
 bk:∀f,dQ i' f=dQ i f
def B1 (O:Nat→VO)(v:VO):Nat→VO:=λj=>match j with
 | 7=>v
 |j=>O j
theorem HL {O:Nat→VO}{v:VO}{j:Nat}(h:j≠7):B1 O v j=O j:=by
 unfold B1
 split
 ·exact absurd rfl h
 ·rfl
theorem Mo (h:MdB i){fn:FuncId}{xs ys:List TV}{z:Int}{g:Mb→Mb}(hy:av (aj [8,7]) (aj []) ys=xs)(hv:∀n lk es ck S st,PoOk lk es ck S st→VCx prog ae 0 fn xs (pT n lk es ck) (vM n (iI S z g))):VCx prog ae 0 fn ys i.Z λx T'=>∃i',L2 i z g x i'∧T'=i'.Z:=by
 obtain ⟨lk,es,ck,st,h8,h7,hp⟩:=h.po
 have e8:i.Z.objs[8]?=some (.cells [.val (.int .i64 i.n),.map 7]):=by rw [←h8];rfl
 have e7:i.Z.objs[7]?=some (.map kI lk es ck):=by rw [←h7];rfl
 refine (BC hp e8 e7 hy (R:=λx a b c=>(∃e:Int,x=.val (.int .i64 e))∧∃st',PoOk a b c (iI i.S z g) st') (λx a b c hr=>by obtain ⟨⟨e,rfl⟩,_⟩:=hr;exact λ_ _=>rfl) ((hv i.n lk es ck i.S st hp).mono ?_)).mono ?_
 ·rintro x T' ⟨e,a,b,c,st',rfl,rfl,h'⟩
  exact ⟨a,b,c,rfl,⟨_,st',h'⟩,⟨e,rfl⟩,st',h'⟩
 ·rintro x T' ⟨a,b,c,⟨⟨e,rfl⟩,st',h'⟩,rfl⟩
  refine ⟨{i with O:=B1 i.O (.map kI a b c),S:=iI i.S z g},⟨⟨e,rfl⟩,⟨rfl,λj hj f g h16=> ?_,λv hv=> ?_,h.fl,h.n1,h.n2,⟨a,b,c,st',h8,rfl,h'⟩,h.si⟩,rfl,rfl,rfl,rfl,λ_=>rfl⟩,rfl⟩
  ·by_cases h3:j=7
   ·subst h3;exact h'.ren f g
   ·simp only [HL h3];exact h.fix j hj f g h16
  ·simp only [cj,mem_cons,not_mem_nil,or_false] at hv
   rcases hv with rfl | rfl | rfl | rfl | rfl | rfl | rfl | rfl | rfl | rfl | rfl | rfl | rfl | rfl | rfl | rfl
   all_goals first
    |rfl
    | (refine h.live _ ?_;simp [cj,B1];done)
end
end
end Go.Proofs.YtgboehkdijjnkaaGreatDoor