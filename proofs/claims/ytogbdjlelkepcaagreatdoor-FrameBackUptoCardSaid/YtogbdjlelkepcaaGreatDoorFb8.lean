/-Part 8 of the proof of frameBackUptoCard_holds:MbL,MbM,MbN ... No condition. -/
import Derived.LaidHandle
import Derived.Test.YtogbdjlelkepcaaGreatDoorRows
import Derived.LaidMore
import Derived.Lay
import Derived.ChangeVars
import Derived.JoinedOf
import Derived.Stop.Joined
import Derived.Deep.DeepHandedRow
import Derived.Test.YtogbdjlelkepcaaGreatDoorTie
import Derived.Test.YtogbdjlelkepcaaGreatDoorCards
import Derived.SevenTiedAt
import Derived.Test.YtogbdjlelkepcaaGreatDoorFb1
import Derived.Test.YtogbdjlelkepcaaGreatDoorFb2
import Derived.Test.YtogbdjlelkepcaaGreatDoorFb3
import Derived.Test.YtogbdjlelkepcaaGreatDoorFb4
import Derived.Test.YtogbdjlelkepcaaGreatDoorFb5
import Derived.Test.YtogbdjlelkepcaaGreatDoorFb6
import Derived.Test.YtogbdjlelkepcaaGreatDoorFb7
set_option maxRecDepth 100000
namespace Go.Proofs.YtogbdjlelkepcaaGreatDoor
open Go.RowKit
open Go.BinOp (eql)
open _root_.BitVec (ofInt toNat)
open _root_.Bool (and_eq_true)
open Go.DataW (Trod trod trod_lt)
open _root_.Int (eq_ofNat_of_zero_le tmod toNat_natCast)
open Go.IntKind (i64 signed u32 u64 u8 wrap)
open _root_.List (all_eq_true append_assoc append_nil cons_append flatten_cons foldl_cons foldl_nil getElem?_eq_getElem getElem?_map getElem_mem length length_append length_cons length_map length_nil length_take map_cons map_id map_map map_nil mem_append mem_cons mem_cons_of_mem mem_cons_self mem_map mem_range mem_singleton nil_append take_add_one take_append_drop take_length take_of_length_le take_succ_cons take_zero)
open Go.Lit (wf)
open _root_.Nat (beq ble le_refl le_trans lt_or_ge not_lt_zero reduceAdd reduceSub zero_le)
open Go.Stop (Interp)
open Go.Proofs.Tryz (checked func7 params7 prog)
open Go.Proofs.YtogbdjlelkepcaaGreatDoor.Tryz (pinned)
open Go.Value (okWide)
theorem qA (l:List Int):bZ (bV l)=l:=by
 unfold bZ bV
 rw [map_map]
 exact (List.map_congr_left λz _=>rfl).trans (map_id l)
theorem byt.is {l:List Int}(h:byt l):IsB (bV l):=⟨⟨l,rfl,h.1⟩,by simpa [bV] using h.2⟩
theorem TM {l m:List Int}(hl:∀z∈l,0≤z∧z<256)(hm:∀z∈m,0≤z∧z<256):mH (bV l)=mH (bV m) ↔ l=m:=by
 refine ⟨λh=> ?_,λh=>by rw [h]⟩
 unfold mH at h
 rw [ou,ou] at h
 simp only [Option.getD_some,xT,ByteArray.mk.injEq] at h
 have h2:(l.map λn=>UInt8.ofNat n.toNat)=m.map λn=>UInt8.ofNat n.toNat:=by simpa using congrArg Array.toList h
 have inj:∀x y:Int,(0≤x∧x<256)→(0≤y∧y<256)→UInt8.ofNat x.toNat=UInt8.ofNat y.toNat→x=y:=λx y hx hy h=>by
  have:=congrArg UInt8.toNat h
  simp only [UInt8.toNat_ofNat'] at this
  omega
 clear h
 induction l generalizing m with
 |nil=>cases m with
  |nil=>rfl
  |cons y m=>simp at h2
 |cons x l ih=>cases m with
  |nil=>simp at h2
  |cons y m=>
   simp only [map_cons,List.cons.injEq] at h2
   rw [inj x y (hl x mem_cons_self) (hm y mem_cons_self) h2.1,ih (λz hz=>hl z (mem_cons_of_mem _ hz)) (λz hz=>hm z (mem_cons_of_mem _ hz)) h2.2]
theorem Z7 (s t:ByteArray):ax eql (aX (.string s) (.string t))=decide (s=t):=by
 have h:=CA (c:=.str) (x:=.string s) (y:=.string t) rfl rfl
 simp only [Value.string.injEq] at h
 show cg (.string s) (.string t)=_
 cases hc:cg (.string s) (.string t)
 ·rw [hc] at h;exact (decide_eq_false λe=>by simpa using h.2 e).symm
 ·exact (decide_eq_true (h.1 hc)).symm
theorem Mr:∀ro ys T K,QR ro ys T K→VCx prog ae ro QK ys T K:=by
 intro ro ys T K hw
 unfold QR at hw
 split at hw
 ·rename_i a tok b tok2
  obtain ⟨⟨ha,hb⟩,hk⟩:=hw
  have hr:=ha.ren
  have hr2:=hb.ren
  refine VCx.loosePure (xs:= [.vec 1 a .none,.vec 1 b .none]) (y:=.val (.bool (zx a b))) au ?_ (by simp [cj]) (by simp only [ap,TV.ren,hr,hr2,Tok.ren]) (λ_ _=>rfl) hk
  refine VCx.keepV (Q:=λx=>x=.val (.bool (zx a b))) (ak ac aa an ai (ZU a b (mH a) (mH b) _) ⟨ow ha rfl,ow hb rfl,?_⟩)
  obtain ⟨⟨l,rfl,hl⟩,_⟩:=ha
  obtain ⟨⟨m,rfl,hm⟩,_⟩:=hb
  rw [Z7]
  unfold zx
  rw [qA,qA,decide_eq_decide.2 (TM hl hm)]
  rfl
 ·exact hw.elim
theorem Ya (c:Int)(v:Bs)(tok:Tok):VCx prog ae 0 Ml [.agg [.val (.int .i64 c),.vec 1 v tok]] ⟨[],[]⟩ λx T'=>x=.val (.bool (nz c v))∧T'=⟨[],[]⟩:=by
 refine VCx.argsLe (xs:= [.agg [.val (.int .i64 c),.vec 1 v .none]]) ⟨.agg ⟨.refl _,.vec _ _ _,trivial⟩,trivial⟩ ?_
 refine VCx.keepV (Q:=λx=>x=.val (.bool (nz c v))) (ak ac aa an ai (ZV c v _) ?_)
 refine aq (λc1=>aq (λc2=> ?_) (λc2=> ?_)) (λc1=> ?_)<;>unfold nz
 ·rw [show decide (0≤c)=true from c1,c2]
  simp only [Bool.true_and]
  rw [show decide (((v.length:Nat):Int)≤100)=decide (v.length≤100) from decide_eq_decide.2 (by omega)]
  rfl
 ·rw [c2,Bool.false_and,Bool.and_false];rfl
 ·rw [show decide (0≤c)=false from c1];rfl
theorem Yb:∀ro ys T K,QS ro ys T K→VCx prog ae ro Ml ys T K:=by
 intro ro ys T K hw
 unfold QS at hw
 split at hw
 ·rename_i c v tok
  have e:nz c (bk (aU []) (aU []) v)=nz c v:=by unfold nz;rw [cD,length_map]
  rw [←e] at hw
  exact VCx.liftPure au (Ya c _ _) rfl (λ_ _=>rfl) hw
 ·exact hw.elim
theorem eo (l:dN):(bM l).length=l.length:=length_map _
theorem lg {l:dN}(f g:Nat→Option Nat):bk f g (bM l)=bM l:=by
 induction l with
 |nil=>rfl
 |cons c l ih=>simp only [bM,map_cons,bk,BE,ap,TV.ren,o9,Tok.ren] at ih ⊢;rw [ih]
theorem mP (l:dN):(bM l).map Hi=l:=by
 unfold bM
 rw [map_map]
 exact (List.map_congr_left λc _=>by show (c.1,bZ (bV c.2))=c;rw [qA]).trans (map_id l)
theorem BG:∀(l:dN) {j:Nat} (h:j<l.length),cc (l.take (j+1))=cc (l.take j)+(l[j].2.length+2)
 |[],j,h=>by simp at h
 |c::l,0,_=>by simp [cc]
 |c::l,j+1,h=>by
  have:=BG l (j:=j) (by simpa using h)
  simp only [take_succ_cons,cc,List.getElem_cons_succ] at this ⊢
  omega
theorem vY:∀(l:dN) (j:Nat),cc (l.take j)≤cc l
 |[],j=>by simp
 |c::l,0=>by simp [cc]
 |c::l,j+1=>by have:=vY l j;simp only [take_succ_cons,cc];omega
def m9 (l:dN):Bool:=decide (∀j,(h:j<l.length)→nz l[j].1 (bV l[j].2)=true∧cc (l.take j)≤200)
theorem TN (ag h i:Int){l:dN}(hl:BF l):dd prog ae (ogL ag h i (bM l) (m9 l) (cc l) (aD prog rK 0)):=bA λp hp=>by
 obtain rfl:=mem_singleton.1 hp
 have hS:bf prog ae (aF [(Ml,QS)]):=aL λp hp=>by obtain rfl:=mem_singleton.1 hp;exact Yb
 refine b9 λK hK=> ?_
 refine dO (f:=rK) (id:=0) (by kernel_rfl) 48 Hj (λj:Nat=>l.length-j) (λj:Nat=>wM (bM l) (cc (l.take j)) j) (λ_=>Fa ag h i (bM l)) (λj=>j≤l.length∧∀k,(hk:k<l.length)→k<j→nz l[k].1 (bV l[k].2)=true∧cc (l.take k)≤200) 1 0 (λ_ _=>⟨le_refl _,le_refl _⟩)
  (λe vs T=>(e=.normal∧m9 l=true∧vs=wM (bM l) (cc l) (bM l).length∧T=Fa ag h i (bM l))∨(e=.ret∧m9 l=false∧∃(z:Nat) (n c:Int) (v:Bs),vs=wM (bM l) n z∧T=⟨(Fa ag h i (bM l)).objs++ [.cells [.val (.int .i64 c),.vec 1 v .none]],[]⟩)) (λj hj=> ?_) 0 ⟨zero_le _,λk _ hk=>absurd hk (not_lt_zero k)⟩ K ?_
 ·obtain ⟨hj,hall⟩:=hj
  by_cases hlt:j<l.length
  ·have hat:(bM l)[((j:Nat):Int).toNat]?=some (BE l[j]):=by rw [toNat_natCast];show (l.map _)[j]?=_;rw [getElem?_map,getElem?_eq_getElem hlt];rfl
   have hbl:(bV l[j].2).length=l[j].2.length:=by simp [bV]
   refine bF ac aa hS ai (Mo ag h i (bM l) (bV l[j].2) (cc (l.take j)) l[j].1 j _) ?_
   refine aS (decide_eq_true (by rw [eo];omega)) ⟨pG rfl rfl (by omega) hat,?_⟩
   have bad:¬(nz l[j].1 (bV l[j].2)=true∧cc (l.take j)≤200)→m9 l=false:=λh=>decide_eq_false λc=>h (c j hlt)
   cases hg:nz l[j].1 (bV l[j].2)
   ·exact aS rfl ⟨rfl,rfl,.inr ⟨rfl,bad (λc=>by rw [hg] at c;cases c.1),j,_,l[j].1,bV l[j].2,rfl,rfl⟩⟩
   ·refine aO rfl (aq (λc2=> ?_) (λc2=> ?_))
    ·have:=of_decide_eq_true c2
     exact ⟨rfl,rfl,.inr ⟨rfl,bad (λc=>by omega),j,_,l[j].1,bV l[j].2,rfl,rfl⟩⟩
    ·have c2:=of_decide_eq_false c2
     have hb:l[j].2.length≤100:=by unfold nz at hg;simp only [and_eq_true,decide_eq_true_eq] at hg;have:=hg.2.2;rwa [hbl] at this
     refine ⟨rfl,rfl,j+1,⟨hlt,λk hk hkj=> ?_⟩,by show l.length-(j+1)<l.length-j;omega,.inr ⟨by simp only [VT.keep,take_succ_cons,take_zero,map_cons,map_nil,VO.ren,ap,TV.ren,lg,Tok.ren];rfl,?_⟩⟩
     ·by_cases hkk:k=j
      ·subst hkk;exact ⟨hg,by omega⟩
      ·exact hall k hk (by omega)
     ·rw [hbl,b6 (z:=((l[j].2.length:Nat):Int)+2) (by omega) (by omega),b6 (by omega) (by omega),gO hlt hl.2]
      show ap _ _ _=wM (bM l) (cc (l.take (j+1))) (j+1:Nat)
      rw [BG l hlt]
      simp only [ap,TV.ren,lg,Tok.ren,wM]
      rw [show ((cc (l.take j):Nat):Int)+(((l[j].2.length:Nat):Int)+2)=((cc (l.take j)+(l[j].2.length+2):Nat):Int) by omega]
  ·have hj2:j=l.length:=by omega
   subst hj2
   have hgo:m9 l=true:=decide_eq_true λk hk=>hall k hk hk
   refine bF ac aa hS ai (Mo ag h i (bM l) [] (cc (l.take l.length)) 0 l.length _) ?_
   exact aO (decide_eq_false (by rw [eo];omega)) ⟨rfl,rfl,.inl ⟨rfl,hgo,by rw [take_length];exact congrArg (λz:Int=>wM (bM l) (cc l) z) (by rw [eo]),rfl⟩⟩
 ·rintro e vs T (⟨rfl,h1,rfl,rfl⟩ | ⟨rfl,h1,z,n,c,v,rfl,rfl⟩)
  ·have:=hK 0 0 0 [];rw [h1] at this;exact this
  ·have:=hK z n c v;rw [h1] at this;exact this
theorem Ph (l:dN):(m9 l&&decide (cc l≤200))=mO l:=by
 unfold mO
 cases hd:decide (cc l≤200)
 ·rw [Bool.and_false,Bool.and_false]
 ·have hd:=of_decide_eq_true hd
  rw [Bool.and_true,Bool.and_true]
  unfold m9
  cases ha:l.all λc=>nz c.1 (bV c.2)
  ·refine decide_eq_false λh=> ?_
   have:(l.all λc=>nz c.1 (bV c.2))=true:=all_eq_true.2 λc hc=>by
    obtain ⟨k,hk,rfl⟩:=List.mem_iff_getElem.1 hc
    exact (h k hk).1
   rw [ha] at this;cases this
  ·exact decide_eq_true λk hk=>⟨all_eq_true.1 ha _ (getElem_mem hk),le_trans (vY l k) hd⟩
theorem OpV.ren (o:OpV)(f g:Nat→Option Nat):ap f g o.cells=o.cells:=by
 simp only [OpV.cells,ap,TV.ren,lg,Tok.ren]
theorem FtV.ren (o:FtV)(f g:Nat→Option Nat):ap f g o.cells=o.cells:=by
 simp only [FtV.cells,ap,TV.ren,o9,Tok.ren]
theorem Yc {o:OpV}(ho:qT o):VCx prog ae 0 rK [.agg o.cells] ⟨[],[]⟩ λx T'=>x=.val (.bool (j6 o))∧T'=⟨[],[]⟩:=by
 obtain ⟨hl,_⟩:=ho
 refine VCx.keepV (Q:=λx=>x=.val (.bool (j6 o))) (ak ac aa an (TN o.n o.h o.i hl) (ZW o.n o.h o.i (bM o.l) (m9 o.l) (cc o.l) _) ?_)
 have fin:∀q:Bool,j6 o=q→(TV.val (.bool q)).ren (aA 0) (aA 0)=.val (.bool (j6 o)):=λq h=>by rw [h];rfl
 have go:∀{G:Bool},j6 o=(G&&mO o.l)→G=true→∀(_:Nat) (_ _:Int) (_:Bs),bif m9 o.l then (TV.val (.bool (decide (((cc o.l:Nat):Int)≤200)))).ren (aA 0) (aA 0)=.val (.bool (j6 o)) else (TV.val (.bool false)).ren (aA 0) (aA 0)=.val (.bool (j6 o)):=by
  intro G h1 h2 _ _ _ _
  rw [h2,Bool.true_and,←Ph] at h1
  have e:decide (((cc o.l:Nat):Int)≤200)=decide (cc o.l≤200):=decide_eq_decide.2 (by omega)
  rw [e]
  cases hg:m9 o.l<;>rw [hg] at h1
  ·exact fin _ h1
  ·exact fin _ h1
 have un:j6 o=(decide (1≤o.n)&&(decide (o.n≤65535)&&((decide (o.h=0) || (decide (3≤o.h)&&decide (o.h≤65535)))&&(!decide (o.i=0)&&mO o.l)))):=rfl
 rw [gH,gH]
 refine aq (λc1=>fin _ ?_) (λc1=>aq (λc2=>fin _ ?_) (λc2=> ?_))
 ·have:=of_decide_eq_true c1
  rw [un,decide_eq_false (show ¬1≤o.n by omega)];rfl
 ·have:=of_decide_eq_true c2
  rw [un,decide_eq_false (show ¬o.n≤65535 by omega),Bool.false_and,Bool.and_false]
 have n1:decide (1≤o.n)=true:=decide_eq_true (by have:=of_decide_eq_false c1;omega)
 have n2:decide (o.n≤65535)=true:=decide_eq_true (by have:=of_decide_eq_false c2;omega)
 rw [n1,n2,Bool.true_and,Bool.true_and] at un
 refine aq (λc3=> ?_) (λc3=>aq (λc4=> ?_) (λc4=>fin _ ?_))
 ·rw [c3,Bool.true_or,Bool.true_and] at un
  refine aq (λc5=>fin _ ?_) (λc5=>⟨rfl,⟨rfl,rfl,rfl,trivial,rfl,rfl,rfl⟩,go (G:= !decide (o.i=0)) un ?_⟩)
  ·rw [un,c5];rfl
  ·rw [c5];rfl
 ·cases c6:decide (o.h≤65535)
  ·refine aS rfl (fin _ ?_)
   rw [un,c3,c6,Bool.and_false,Bool.or_false,Bool.false_and]
  ·refine aO rfl ?_
   rw [c6,show decide (3≤o.h)=true from c4,Bool.true_and,Bool.or_true,Bool.true_and] at un
   refine aq (λc5=>fin _ ?_) (λc5=>⟨rfl,⟨rfl,rfl,rfl,trivial,rfl,rfl,rfl⟩,go (G:= !decide (o.i=0)) un ?_⟩)
   ·rw [un,c5];rfl
   ·rw [c5];rfl
 ·rw [un,c3,show decide (3≤o.h)=false from c4];rfl
theorem Yd (ok:Bool):∀ro ys T K,QW ok ro ys T K→VCx prog ae ro rK ys T K:=by
 intro ro ys T K hw
 unfold QW at hw
 split at hw
 ·obtain ⟨⟨o,rfl,ho,rfl⟩,hk⟩:=hw
  exact VCx.liftPure au (Yc ho) (by simp only [ap,TV.ren,o.ren]) (λ_ _=>rfl) hk
 ·exact hw.elim
theorem u5 {c:Int}{v:Bs}(h:qS c v):IsB (j5 c v)∧(j5 c v).length=2+v.length:=by
 have e:(j5 c v).length=2+v.length:=by
  show (aw 1 c++aw 1 v.length++v).length=_
  rw [length_append,length_append,bo,bo];rfl
 exact ⟨IsB.append (IsB.append (dh _ (by decide)) (dh _ (by decide)) (by rw [length_append,bo,bo];decide)) h.2.1 (by show (j5 c v).length≤_;rw [e];have:=h.2.2;omega),e⟩
theorem Ye {c:Int}{v:Bs}(h:qS c v):VCx prog ae 0 E7 [.agg [.val (.int .i64 c),.vec 1 v .none]] ⟨[],[]⟩ λx T'=>x=.vec 1 (j5 c v) .none∧T'=⟨[],[]⟩:=by
 have hB:=u5 h
 have hl1:=bo (k:=1) c
 have hl2:=bo (k:=1) (v.length:Int)
 refine VCx.toLe (Q:=λT'=>T'=⟨[],[]⟩) (VCx.keepV (Q:=λx=>TVle x (.vec 1 (j5 c v) .none)) (ak ac aa (aL λp hp=>by obtain rfl:=mem_singleton.1 hp;exact E4) ai (ZX c v (j5 c v) (0+v.length) _) ⟨rfl,⟨⟨h.1.1,by have:=h.1.2;omega⟩,by decide,by decide⟩,⟨rfl,trivial,rfl,rfl,trivial⟩,rfl,⟨⟨⟨by omega,by have:=h.2.2;omega⟩,by decide,by decide⟩,dh _ (by decide),zv (by rw [hl1];decide)⟩,⟨rfl,trivial,rfl,rfl,trivial⟩,?_,?_⟩))
 ·exact jV (ro:=0) (T:=⟨[.cells [.val (.int .i64 c),.vec 1 v .none]],[(0,1,false),(0,1,false)]⟩) (T1:=⟨[.cells [.val (.int .i64 c),.vec 1 v .none]],[(0,1,false),(0,1,false)]⟩) (s:=.tmp 9) (x:=.tmp 11) (l:= [(9,.vec 1 (aw 1 c++aw 1 v.length) (.tail 1 0)),(11,.vec 1 v .none)]) (es:=aw 1 c++aw 1 v.length) (es2:=v) (k:=1) (n:=0) (bn:=false) rfl rfl (by rw [length_append,hl1,hl2];have:=h.2.2;omega)
 ·simp only [TV.ren,hB.1.ren]
  exact .vec 1 _ _
theorem Yf:∀ro ys T K,QT ro ys T K→VCx prog ae ro E7 ys T K:=by
 intro ro ys T K hw
 unfold QT at hw
 split at hw
 ·rename_i c v tok
  obtain ⟨h,hk⟩:=hw
  refine VCx.argsLe (xs:= [.agg [.val (.int .i64 c),.vec 1 v .none]]) ⟨.agg ⟨.refl _,.vec _ _ _,trivial⟩,trivial⟩ ?_
  exact VCx.liftPure au (Ye h) (by simp only [ap,TV.ren,h.2.1.ren,Tok.ren]) (λf g=>by simp only [TV.ren,(u5 h).1.ren,Tok.ren]) hk
 ·exact hw.elim
theorem kS:∀l:dN,(cJ l).length=cc l
 |[]=>rfl
 |c::l=>by
  have:=kS l
  have e:(j5 c.1 (bV c.2)).length=2+c.2.length:=by
   show (aw 1 c.1++aw 1 (bV c.2).length++bV c.2).length=_
   rw [length_append,length_append,bo,bo];simp [bV]
  simp only [cJ,List.flatMap_cons,length_append,cc] at this ⊢
  omega
theorem jX {l:dN}(hw:BF l)(hg:mO l=true):(∀c∈l,qS c.1 (bV c.2))∧cc l≤200:=by
 unfold mO at hg
 simp only [and_eq_true,decide_eq_true_eq] at hg
 refine ⟨λc hc=> ?_,hg.2⟩
 have h:=all_eq_true.1 hg.1 c hc
 unfold nz at h
 simp only [and_eq_true,decide_eq_true_eq] at h
 exact ⟨⟨h.1,h.2.1⟩,⟨⟨c.2,rfl,hw.1 c hc⟩,le_trans h.2.2 (by decide)⟩,h.2.2⟩
theorem rM:∀{l:dN},(∀c∈l,qS c.1 (bV c.2))→cc l≤200→IsB (cJ l)
 |[],_,_=>.nil
 |c::l,h,hn=>by
  have h1:=rM (l:=l) (λd hd=>h d (mem_cons_of_mem _ hd)) (by simp only [cc] at hn;omega)
  have h2:=u5 (h c mem_cons_self)
  refine IsB.append (b:=cJ l) h2.1 h1 ?_
  have:=kS (c::l)
  show (cJ (c::l)).length≤_
  omega
theorem Ms {l:dN}{j:Nat}(h:j<l.length):cJ (l.take (j+1))=cJ (l.take j)++j5 l[j].1 (bV l[j].2):=by
 unfold cJ
 rw [take_add_one,getElem?_eq_getElem h,List.flatMap_append]
 simp
theorem TO {l:dN}(hw:BF l)(hg:mO l=true):dd prog ae (eaL (cJ l) (bM l) (aD prog u4 0)):=bA λp hp=>by
 obtain rfl:=mem_singleton.1 hp
 have hS:bf prog ae (aF [(E7,QT)]):=aL λp hp=>by obtain rfl:=mem_singleton.1 hp;exact Yf
 obtain ⟨hd,hn⟩:=jX hw hg
 have htk:∀j,IsB (cJ (l.take j)):=λj=>rM (λc hc=>hd c (List.mem_of_mem_take hc)) (le_trans (vY l j) hn)
 have hlen:∀j,(cJ (l.take j)).length≤200:=λj=>by rw [kS];exact le_trans (vY l j) hn
 refine Dp λK hK=> ?_
 refine dO (f:=u4) (id:=0) (by kernel_rfl) 21 Mn (λj:Nat=>l.length-j) (λj:Nat=>Hk (cJ (l.take j)) (bM l) j) (λj=>⟨[],[((cJ (l.take j)).length,1,true)]⟩) (λj=>j≤l.length) 0 1 (λ_ _=>⟨le_refl _,le_refl _⟩)
  (λe vs T=>e=.normal∧vs=Hk (cJ l) (bM l) (bM l).length∧T=⟨[],[((cJ l).length,1,true)]⟩) (λj hj=> ?_) 0 (zero_le _) K ?_
 ·by_cases hlt:j<l.length
  ·have hat:(bM l)[((j:Nat):Int).toNat]?=some (BE l[j]):=by rw [toNat_natCast];show (l.map _)[j]?=_;rw [getElem?_map,getElem?_eq_getElem hlt];rfl
   have hp:=hd _ (getElem_mem hlt)
   have h1:=hlen j
   have h2:=(u5 hp).2
   have ht:=AC [.cells (BE l[j])] (cJ (l.take j)) (j5 l[j].1 (bV l[j].2)) (by have:=hp.2.2;omega) 14 17 rfl
   rw [←Ms hlt] at ht
   refine bF ac aa hS ai (Mp (cJ (l.take j)) (cJ (l.take (j+1))) (bM l) (bV l[j].2) l[j].1 j _) ?_
   refine aS (decide_eq_true (by rw [eo];omega)) ⟨pG rfl rfl (by omega) hat,hp,ht,rfl,rfl,j+1,hlt,by show l.length-(j+1)<l.length-j;omega,.inr ⟨rfl,?_⟩⟩
   simp only [ap,TV.ren,lg,(htk (j+1)).ren,Tok.ren]
   rw [gO hlt hw.2]
   rfl
  ·have hj2:j=l.length:=by omega
   refine bF ac aa hS ai (Mp (cJ (l.take j)) [] (bM l) [] 0 j _) ?_
   subst hj2
   exact aO (decide_eq_false (by rw [eo];omega)) ⟨rfl,rfl,rfl,by simp only [Hk,eo,take_length],by rw [take_length]⟩
 ·rintro e vs T ⟨rfl,rfl,rfl⟩
  exact hK
theorem Yg {l:dN}(hw:BF l)(hg:mO l=true):VCx prog ae 0 u4 [.vec 2 (bM l) .none,.fn (.func E7) [] []] ⟨[],[]⟩ λx T'=>x=.vec 1 (cJ l) .none∧T'=⟨[],[]⟩:=by
 have hi:=rM (jX hw hg).1 (jX hw hg).2
 refine VCx.toLe (Q:=λT'=>T'=⟨[],[]⟩) (VCx.keepV (Q:=λx=>TVle x (.vec 1 (cJ l) .none)) (ak ac aa an (TO hw hg) (ZY (cJ l) (bM l) _) ⟨rfl,⟨rfl,rfl,rfl,⟨rfl,trivial⟩,rfl,rfl,rfl⟩,?_⟩))
 simp only [TV.ren,hi.ren]
 exact .vec 1 _ _
theorem Yh:∀ro ys T K,QU ro ys T K→VCx prog ae ro u4 ys T K:=by
 intro ro ys T K hw
 unfold QU at hw
 split at hw
 ·rename_i l tok
  obtain ⟨⟨c,rfl,h1,h2⟩,hk⟩:=hw
  have hi:=rM (jX h1 h2).1 (jX h1 h2).2
  unfold pL at hk
  rw [mP] at hk
  refine VCx.argsLe (xs:= [.vec 2 (bM c) .none,.fn (.func E7) [] []]) ⟨.vec _ _ _,.refl _,trivial⟩ ?_
  exact VCx.liftPure au (Yg h1 h2) (by simp only [ap,TV.ren,lg,Tok.ren]) (λf g=>by simp only [TV.ren,hi.ren,Tok.ren]) hk
 ·exact hw.elim
def PwM (m:Nat)(b:Bs):Prop:=IsB b∧b≠ []∧b.length≤m
theorem PwM.v {m:Nat}{b:Bs}(h:PwM m b):iP b:=⟨h.1,h.2.1⟩
theorem PwM.zero {k n:Int}(h0:0<k)(hk:k≤8):PwM 8 (aw k n):=⟨dh n hk,zv (by rw [bo];omega),by rw [bo];omega⟩
theorem PwM.step {m:Nat}{b:Bs}{k n:Int}(h:PwM m b)(hk:k≤8)(hm:m≤28800000):PwM (m+8) (b++aw k n):=by
 have hl:(b++aw k n).length≤m+8:=by rw [length_append,bo];have:=h.2.2;omega
 exact ⟨IsB.append h.1 (dh n hk) (by omega),by simp [h.2.1],hl⟩
theorem PwM.app {m q:Nat}{b c:Bs}(h:PwM m b)(hc:IsB c)(hl:c.length≤q)(hm:m+q≤32000000):PwM (m+q) (b++c):=by
 have hl:(b++c).length≤m+q:=by rw [length_append];have:=h.2.2;omega
 exact ⟨IsB.append h.1 hc (by omega),by simp [h.2.1],hl⟩
def Hm (o:OpV):Bs:=aw 1 4++aw 2 o.n++aw 2 o.h++aw 4 o.i
def Mt (o:OpV):Bs:=Hm o++aw 1 ((cc o.l:Int)+2)++aw 1 2++aw 1 (cc o.l)++cJ o.l
def dU (o:OpV):Bs:=bif j6 o then (bif decide (o.l.length=0) then Hm o++aw 1 0 else Mt o) else []
structure OvG (o:OpV):Prop where
 n:1≤o.n∧o.n≤65535
 h:o.h=0∨(3≤o.h∧o.h≤65535)
 i:o.i≠0
 l:mO o.l=true
theorem u6 {o:OpV}(h:j6 o=true):OvG o:=by
 unfold j6 at h
 simp only [and_eq_true,Bool.or_eq_true,decide_eq_true_eq,Bool.not_eq_true',decide_eq_false_iff_not] at h
 obtain ⟨h1,h2,h3,h4,h5⟩:=h
 exact ⟨⟨h1,h2⟩,h3,h4,h5⟩
theorem QZ (o:OpV):PwM 32 (Hm o):=(((PwM.zero (by decide) (by decide)).step (by decide) (by decide)).step (by decide) (by decide)).step (by decide) (by decide)
theorem Q0 {o:OpV}(hw:BF o.l)(hg:mO o.l=true):PwM 256 (Mt o):=by
 have hd:=jX hw hg
 exact ((((QZ o).step (by decide) (by decide)).step (by decide) (by decide)).step (by decide) (by decide)).app (q:=200) (rM hd.1 hd.2) (by rw [kS];exact hd.2) (by decide)
theorem pM {o:OpV}(hw:BF o.l):IsB (dU o)∧(dU o).length≤256:=by
 unfold dU
 cases hg:j6 o
 ·exact ⟨.nil,zero_le _⟩
 ·cases decide (o.l.length=0)
  ·have:=Q0 hw (u6 hg).l;exact ⟨this.1,this.2.2⟩
  ·have:=(QZ o).step (k:=1) (n:=0) (by decide) (by decide);exact ⟨this.1,le_trans this.2.2 (by decide)⟩
theorem Yi {o:OpV}(ho:qT o):VCx prog ae 0 QL [.agg o.cells] ⟨[],[]⟩ λx T'=>x=.vec 1 (dU o) .none∧T'=⟨[],[]⟩:=by
 have hS:bf prog ae (aF [(rK,QW (j6 o)),(nY,pK .i64 1),(jH,ky .i64 2),(sU,ky .u32 4),(u4,QU)]):=aL λp hp=>by
  rcases mem_cons.1 hp with rfl | hp;exact Yd _
  rcases mem_cons.1 hp with rfl | hp;exact E4
  rcases mem_cons.1 hp with rfl | hp;exact LX
  rcases mem_cons.1 hp with rfl | hp;exact EN
  obtain rfl:=mem_singleton.1 hp;exact Yh
 have hw:=ho.1
 refine VCx.toLe (Q:=λT'=>T'=⟨[],[]⟩) (VCx.keepV (Q:=λx=>TVle x (.vec 1 (dU o) .none)) (ak ac aa hS ai (ZZ o.n o.h o.i (bM o.l) (Mt o) (0+cc o.l) (j6 o) _) ⟨⟨o,rfl,ho,rfl⟩,?_⟩))
 have hB:=(pM hw).1
 cases hg:j6 o
 ·refine aS rfl ?_
  unfold dU;rw [hg];exact .nil 1
 have eB:dU o=bif decide (o.l.length=0) then Hm o++aw 1 0 else Mt o:=by unfold dU;rw [hg];rfl
 have G:=u6 hg
 have hd:=jX hw G.l
 have hpl:=kS o.l
 have eb:pL (bM o.l)=cJ o.l:=by unfold pL;rw [mP]
 have ok16:∀z:Int,0≤z→z≤65535→cT z 2:=λz h0 h1=>⟨⟨h0,by omega⟩,by decide,by decide⟩
 have ok8:∀z:Int,0≤z→z≤65535→cT z 1:=λz h0 h1=>⟨⟨h0,by omega⟩,by decide,by decide⟩
 have hh:0≤o.h∧o.h≤65535:=by rcases G.h with h | h<;>omega
 have m1:PwM 8 (aw 1 4):=.zero (by decide) (by decide)
 have m2:=m1.step (k:=2) (n:=o.n) (by decide) (by decide)
 have m3:=m2.step (k:=2) (n:=o.h) (by decide) (by decide)
 have m4:=m3.step (k:=4) (n:=o.i) (by decide) (by decide)
 have e3:((((some (TV.val (.int .u32 o.i))=some (TV.val (.int .u32 o.i))))∧((some (TV.val (.int .i64 o.h))=some (TV.val (.int .i64 o.h)))∧((some (TV.val (.int .i64 o.n))=some (TV.val (.int .i64 o.n)))∧True)))):=⟨rfl,rfl,rfl,trivial⟩
 refine aO rfl ⟨rfl,ok8 4 (by decide) (by decide),e3,rfl,⟨ok16 _ (by have:=G.n.1;omega) G.n.2,m1.v⟩,e3,rfl,⟨ok16 _ hh.1 hh.2,m2.v⟩,e3,rfl,⟨⟨⟨ho.2.1,by have:=ho.2.2;omega⟩,by decide,by decide⟩,m3.v⟩,?_⟩
 rw [gH,eo,eb,hpl,b6 (z:=((cc o.l:Nat):Int)+2) (by omega) (by have:=hd.2;omega)]
 have ez:decide (((o.l.length:Nat):Int)=0)=decide (o.l.length=0):=decide_eq_decide.2 (by omega)
 rw [ez]
 refine aq (λc=> ?_) (λc=> ?_)
 ·rw [c] at eB
  refine ⟨rfl,⟨ok8 0 (by decide) (by decide),m4.v⟩,?_⟩
  rw [eB]
  have:=m4.step (k:=1) (n:=0) (by decide) (by decide)
  simp only [TV.ren,cond_true]
  rw [this.1.ren]
  exact .vec 1 _ _
 ·rw [c] at eB
  have m5:=m4.step (k:=1) (n:=(cc o.l:Int)+2) (by decide) (by decide)
  have m6:=m5.step (k:=1) (n:=2) (by decide) (by decide)
  have m7:=m6.step (k:=1) (n:=(cc o.l:Int)) (by decide) (by decide)
  refine ⟨⟨o.l,rfl,hw,G.l⟩,rfl,⟨ok8 _ (by omega) (by have:=hd.2;omega),m4.v⟩,rfl,⟨ok8 2 (by decide) (by decide),m5.v⟩,rfl,⟨ok8 _ (by omega) (by have:=hd.2;omega),m6.v⟩,?_,?_⟩
  ·have h:=jV (ro:=0) (T:=⟨[.cells o.cells],[(0,1,false),(0,1,false),(0,1,false),(0,1,false)]⟩) (T1:=⟨[.cells o.cells],[(0,1,false),(0,1,false),(0,1,false),(0,1,false)]⟩) (s:=.tmp 36) (x:=.tmp 37) (l:= [(36,.vec 1 (aw 1 4++aw 2 o.n++aw 2 o.h++aw 4 o.i++aw 1 ((cc o.l:Int)+2)++aw 1 2++aw 1 (cc o.l)) (.tail 3 0)),(37,.vec 1 (cJ o.l) .none)]) (es:=aw 1 4++aw 2 o.n++aw 2 o.h++aw 4 o.i++aw 1 ((cc o.l:Int)+2)++aw 1 2++aw 1 (cc o.l)) (es2:=cJ o.l) (k:=3) (n:=0) (bn:=false) rfl rfl (by have h1:=m7.2.2;have h2:=hd.2;omega)
   rw [hpl] at h
   exact h
  ·rw [eB]
   have hX:=Q0 hw G.l
   simp only [TV.ren,cond_false]
   rw [hX.1.ren]
   exact .vec 1 _ _
--bumped 32
theorem Yj {c d:Int}{v w:Bs}(h:Pg v w):VCx prog ae 0 E8 [.agg [.val (.int .i64 c),.vec 1 v .none],.agg [.val (.int .i64 d),.vec 1 w .none]] ⟨[],[]⟩ λx T'=>x=.val (.bool (xG c v d w))∧T'=⟨[],[]⟩:=by
 refine VCx.keepV (Q:=λx=>x=.val (.bool (xG c v d w))) (ak ac aa (aL λp hp=>by obtain rfl:=mem_singleton.1 hp;exact Mr) ai (Z0 c d v w _) ?_)
 rw [gH]
 refine aq (λc1=>⟨h,?_⟩) (λc1=> ?_)<;>unfold xG<;>rw [c1]<;>rfl
theorem Yk:∀ro ys T K,QV ro ys T K→VCx prog ae ro E8 ys T K:=by
 intro ro ys T K hw
 unfold QV at hw
 split at hw
 ·rename_i c v tok d w tok2
  obtain ⟨h,hk⟩:=hw
  refine VCx.argsLe (xs:= [.agg [.val (.int .i64 c),.vec 1 v .none],.agg [.val (.int .i64 d),.vec 1 w .none]]) ⟨.agg ⟨.refl _,.vec _ _ _,trivial⟩,.agg ⟨.refl _,.vec _ _ _,trivial⟩,trivial⟩ ?_
  exact VCx.liftPure au (Yj h) (by simp only [ap,TV.ren,h.1.ren,h.2.ren,Tok.ren]) (λ_ _=>rfl) hk
 ·exact hw.elim
theorem TP (c d:Int × List Int):xG c.1 (bV c.2) d.1 (bV d.2)=decide (c=d):=by
 unfold xG zx
 rw [qA,qA,←Bool.decide_and]
 exact decide_eq_decide.2 ⟨λh=>Prod.ext h.1 h.2,λh=>by rw [h];exact ⟨rfl,rfl⟩⟩
theorem TQ {l m:dN}(hh:l.length=m.length→lZ l∧lZ m):dd prog ae (efL (bM l) (bM m) (decide (l=m)) (aD prog wL 0)):=bA λp hp=>by
 obtain rfl:=mem_singleton.1 hp
 have hS:bf prog ae (aF [(E8,QV)]):=aL λp hp=>by obtain rfl:=mem_singleton.1 hp;exact Yk
 refine b9 λK hK=> ?_
 obtain ⟨hlm,hK⟩:=hK
 rw [eo,eo] at hlm
 obtain ⟨hl,hm⟩:=hh hlm
 refine dO (f:=wL) (id:=0) (by kernel_rfl) 32 Hl (λj:Nat=>l.length-j) (λj:Nat=>wO (bM l) (bM m) j) (λ_=>⟨[],[]⟩) (λj=>j≤l.length∧l.take j=m.take j) 0 0 (λ_ _=>⟨le_refl _,le_refl _⟩)
  (λe vs T=>(e=.normal∧l=m∧vs=wO (bM l) (bM m) (bM l).length∧T=⟨[],[]⟩)∨(e=.ret∧l≠m∧∃(z:Nat) (c d:Int) (v w:Bs),vs=wO (bM l) (bM m) z∧T=⟨[.cells [.val (.int .i64 c),.vec 1 v .none],.cells [.val (.int .i64 d),.vec 1 w .none]],[]⟩)) (λj hj=> ?_) 0 ⟨zero_le _,rfl⟩ K ?_
 ·obtain ⟨hj,hall⟩:=hj
  by_cases hlt:j<l.length
  ·have hlt2:j<m.length:=by omega
   have hat:(bM l)[((j:Nat):Int).toNat]?=some (BE l[j]):=by rw [toNat_natCast];show (l.map _)[j]?=_;rw [getElem?_map,getElem?_eq_getElem hlt];rfl
   have hat2:(bM m)[((j:Nat):Int).toNat]?=some (BE m[j]):=by rw [toNat_natCast];show (m.map _)[j]?=_;rw [getElem?_map,getElem?_eq_getElem hlt2];rfl
   refine bF ac aa hS ai (Mq (bM l) (bM m) (bV l[j].2) (bV m[j].2) l[j].1 m[j].1 j _) ?_
   refine aS (decide_eq_true (by rw [eo];omega)) ⟨pG rfl rfl (by omega) hat,pG rfl rfl (by omega) hat2,⟨(hl.1 _ (getElem_mem hlt)).is,(hm.1 _ (getElem_mem hlt2)).is⟩,?_⟩
   rw [TP]
   cases c1:decide (l[j]=m[j])
   ·refine aS rfl ⟨rfl,rfl,.inr ⟨rfl,λh=> ?_,j,l[j].1,m[j].1,bV l[j].2,bV m[j].2,rfl,rfl⟩⟩
    subst h
    simp at c1
   ·refine aO rfl ⟨rfl,rfl,j+1,⟨hlt,?_⟩,by show l.length-(j+1)<l.length-j;omega,.inr ⟨rfl,?_⟩⟩
    ·rw [take_add_one,getElem?_eq_getElem hlt,take_add_one,getElem?_eq_getElem hlt2,hall,of_decide_eq_true c1]
    ·rw [gO hlt hl.2]
     show ap _ _ _=wO (bM l) (bM m) (j+1:Nat)
     simp only [ap,TV.ren,lg,Tok.ren,wO]
  ·have hj2:j=l.length:=by omega
   subst hj2
   rw [take_length,hlm,take_length] at hall
   refine bF ac aa hS ai (Mq (bM l) (bM m) [] [] 0 0 l.length _) ?_
   exact aO (decide_eq_false (by rw [eo];omega)) ⟨rfl,rfl,.inl ⟨rfl,hall,by simp only [wO,eo],rfl⟩⟩
 ·rintro e vs T (⟨rfl,h1,rfl,rfl⟩ | ⟨rfl,h1,z,c,d,v,w,rfl,rfl⟩)
  ·have:=hK 0 0 0 [] [];rw [decide_eq_true h1] at this;exact this
  ·have:=hK z c d v w;rw [decide_eq_false h1] at this;exact this
theorem Yl {l m:dN}(hh:l.length=m.length→lZ l∧lZ m):VCx prog ae 0 wL [.vec 2 (bM l) .none,.vec 2 (bM m) .none,.fn (.func E8) [] []] ⟨[],[]⟩ λx T'=>x=.val (.bool (decide (l=m)))∧T'=⟨[],[]⟩:=by
 refine VCx.keepV (Q:=λx=>x=.val (.bool (decide (l=m)))) (ak ac aa an (TQ hh) (Z1 (bM l) (bM m) (decide (l=m)) _) ?_)
 rw [ep,eo,eo]
 by_cases hlm:l.length=m.length
 ·refine aO (by rw [decide_eq_true (by omega)];rfl) ⟨rfl,⟨rfl,rfl,rfl,trivial,rfl,rfl,by rw [←eo l]⟩,hlm,λ_ _ _ _ _=> ?_⟩
  cases decide (l=m)<;>rfl
 ·rw [decide_eq_false (show ¬l=m from λh=>hlm (by rw [h]))]
  exact aS (by rw [decide_eq_false (by omega)];rfl) rfl
theorem Ym:∀ro ys T K,X9 ro ys T K→VCx prog ae ro wL ys T K:=by
 intro ro ys T K hw
 unfold X9 at hw
 split at hw
 ·obtain ⟨⟨a,b,⟨rfl,rfl⟩,h1⟩,hk⟩:=hw
  unfold E9 at hk
  rw [mP,mP] at hk
  refine VCx.argsLe (xs:= [.vec 2 (bM a) .none,.vec 2 (bM b) .none,.fn (.func E8) [] []]) ⟨.vec _ _ _,.vec _ _ _,.refl _,trivial⟩ ?_
  exact VCx.liftPure au (Yl h1) (by simp only [ap,TV.ren,lg,Tok.ren]) (λ_ _=>rfl) hk
 ·exact hw.elim
theorem Yn {o q:OpV}(hh:o.l.length=q.l.length→lZ o.l∧lZ q.l):VCx prog ae 0 QM [.agg o.cells,.agg q.cells] ⟨[],[]⟩ λx T'=>x=.val (.bool (decide (o=q)))∧T'=⟨[],[]⟩:=by
 refine VCx.keepV (Q:=λx=>x=.val (.bool (decide (o=q)))) (ak ac aa (aL λp hp=>by obtain rfl:=mem_singleton.1 hp;exact Ym) ai (Z2 o.n o.h o.i q.n q.h q.i (bM o.l) (bM q.l) _) ?_)
 have fin:∀b:Bool,decide (o=q)=b→(TV.val (.bool b)).ren (aA 0) (aA 0)=.val (.bool (decide (o=q))):=λb h=>by rw [h];rfl
 have e:E9 (bM o.l) (bM q.l)=decide (o.l=q.l):=by unfold E9;rw [mP,mP]
 rw [gH,gH,gH,e]
 refine aq (λc1=>aq (λc2=>aq (λc3=>⟨⟨_,_,⟨rfl,rfl⟩,hh⟩,fin _ ?_⟩) (λc3=>fin _ ?_)) (λc2=>fin _ ?_)) (λc1=>fin _ ?_)
 ·have d1:=of_decide_eq_true c1
  have d2:=of_decide_eq_true c2
  have d3:=of_decide_eq_true c3
  refine decide_eq_decide.2 ⟨λh=>by rw [h],λh=> ?_⟩
  obtain ⟨n,hh,i,l⟩:=o
  obtain ⟨n2,h2,i2,l2⟩:=q
  simp only at d1 d2 d3 h
  rw [d1,d2,d3,h]
 ·exact decide_eq_false λh=>of_decide_eq_false c3 (by rw [h])
 ·exact decide_eq_false λh=>of_decide_eq_false c2 (by rw [h])
 ·exact decide_eq_false λh=>of_decide_eq_false c1 (by rw [h])
theorem kB (l:List Int):(bV l).length=l.length:=length_map _
theorem Yo (f:FtV):VCx prog ae 0 QN [.agg f.cells] ⟨[],[]⟩ λx T'=>x=.val (.bool (lf f))∧T'=⟨[],[]⟩:=by
 refine VCx.keepV (Q:=λx=>x=.val (.bool (lf f))) (ak ac aa an ai (Z3 f.c f.s (bV f.d) _) ?_)
 have fin:∀b:Bool,lf f=b→(TV.val (.bool b)).ren (aA 0) (aA 0)=.val (.bool (lf f)):=λb h=>by rw [h];rfl
 have un:lf f=(decide (f.c≥1)&&(decide (f.c≤255)&&(decide (f.s≥0)&&(decide (f.s≤255)&&decide (f.d.length≤4075))))):=rfl
 refine aq (λc1=>aq (λc2=>aq (λc3=>aq (λc4=>fin _ ?_) (λc4=>fin _ ?_)) (λc3=>fin _ ?_)) (λc2=>fin _ ?_)) (λc1=>fin _ ?_)
 ·rw [un,c1,c2,c3,c4,kB]
  simp only [Bool.true_and]
  exact decide_eq_decide.2 (by omega)
 ·rw [un,c1,c2,c3,c4];rfl
 ·rw [un,c1,c2,c3];rfl
 ·rw [un,c1,c2];rfl
 ·rw [un,c1];rfl
theorem Yp {a b:Bs}{tok tok1 tok2:Tok}(h:Jg a b):VCx prog ae 0 lY [.vec 1 [[.vec 1 a tok1],[.vec 1 b tok2]] tok] ⟨[],[]⟩ λx T'=>x=.vec 1 (a++b) .none∧T'=⟨[],[]⟩:=by
 obtain ⟨⟨ha,hne⟩,hb,hl⟩:=h
 have hab:IsB (a++b):=IsB.append ha hb (by rw [length_append];omega)
 have hpos:0<a.length:=List.length_pos_iff.2 hne
 refine VCx.freezeRow hab.ren ((GN ha hb hl (by omega)).mono ?_)
 rintro x T' ⟨rfl,rfl⟩
 exact jW rfl (Hg hab) (by rw [length_append])
theorem Yq {f:FtV}(hf:byt f.d):VCx prog ae 0 QO [.agg f.cells] ⟨[],[]⟩ λx T'=>x=.vec 1 (bif lf f then bT f.c::bT f.s::bV f.d else []) .none∧T'=⟨[],[]⟩:=by
 have hS:bf prog ae (aF [(QN,QY (lf f)),(lY,QX)]):=aL λp hp=>by
  rcases mem_cons.1 hp with rfl | hp
  ·intro ro ys T K hw
   replace hw:QY (lf f) ro ys T K:=hw
   unfold QY at hw
   split at hw
   ·obtain ⟨⟨q,rfl,_,hq⟩,hk⟩:=hw
    rw [hq] at hk
    exact VCx.liftPure au (Yo q) (by simp only [ap,TV.ren,q.ren]) (λ_ _=>rfl) hk
   ·exact hw.elim
  ·obtain rfl:=mem_singleton.1 hp
   intro ro ys T K hw
   replace hw:QX ro ys T K:=hw
   unfold QX at hw
   split at hw
   ·obtain ⟨h,hk⟩:=hw
    have hab:=IsB.append h.1.1 h.2.1 (by rw [length_append];exact h.2.2)
    exact VCx.liftPure au (Yp h) (by simp only [ap,bk,TV.ren,h.1.1.ren,h.2.1.ren];rfl) (λf g=>by simp only [TV.ren,hab.ren,Tok.ren]) hk
   ·exact hw.elim
 refine VCx.toLe (Q:=λT'=>T'=⟨[],[]⟩) (VCx.keepV (Q:=λx=>TVle x (.vec 1 (bif lf f then bT f.c::bT f.s::bV f.d else []) .none)) (ak ac aa hS ai (Z4 f.c f.s (bV f.d) (lf f) _) ⟨⟨f,rfl,hf,rfl⟩,?_⟩))
 cases hg:lf f
 ·exact aS rfl (.nil 1)
 ·unfold lf at hg
  simp only [and_eq_true,decide_eq_true_eq] at hg
  obtain ⟨h1,h2,h3,h4,h5⟩:=hg
  have w:∀z:Int,0≤z→z≤255→u8.wrap z=z:=λz h0 h1=>by simp only [wrap,IntKind.bits,signed];simp;omega
  rw [w f.c (by omega) h2,w f.s h3 h4]
  have h2B:IsB [bT f.c,bT f.s]:=⟨⟨[f.c,f.s],rfl,λz hz=>by simp at hz;rcases hz with rfl | rfl<;>omega⟩,by simp⟩
  have hC:Jg [bT f.c,bT f.s] (bV f.d):=⟨⟨h2B,by simp⟩,hf.is,by rw [kB];simp;omega⟩
  have hab:=IsB.append h2B hf.is (by rw [length_append];exact hC.2.2)
  refine aO rfl ⟨hC,?_⟩
  have e:(TV.vec 1 ([[TV.val (.int .u8 f.c)],[.val (.int .u8 f.s)]]++bV f.d) .none).ren (aA 0) (aA 0)=.vec 1 ([bT f.c,bT f.s]++bV f.d) .none:=by
   simp only [TV.ren,Tok.ren]
   exact congrArg (λz=>TV.vec 1 z .none) (hab.ren _ _)
  rw [e]
  exact .refl _
theorem Yr {f g:FtV}(hf:byt f.d)(hg:byt g.d):VCx prog ae 0 QP [.agg f.cells,.agg g.cells] ⟨[],[]⟩ λx T'=>x=.val (.bool (decide (f=g)))∧T'=⟨[],[]⟩:=by
 refine VCx.keepV (Q:=λx=>x=.val (.bool (decide (f=g)))) (ak ac aa (aL λp hp=>by obtain rfl:=mem_singleton.1 hp;exact Mr) ai (Z5 f.c f.s g.c g.s (bV f.d) (bV g.d) _) ?_)
 have fin:∀b:Bool,decide (f=g)=b→(TV.val (.bool b)).ren (aA 0) (aA 0)=.val (.bool (decide (f=g))):=λb h=>by rw [h];rfl
 rw [gH,gH]
 refine aq (λc1=>aq (λc2=>⟨⟨hf.is,hg.is⟩,fin _ ?_⟩) (λc2=>fin _ ?_)) (λc1=>fin _ ?_)
 ·have d1:=of_decide_eq_true c1
  have d2:=of_decide_eq_true c2
  unfold zx
  rw [qA,qA]
  refine decide_eq_decide.2 ⟨λh=>by rw [h],λh=> ?_⟩
  obtain ⟨c,s,d⟩:=f
  obtain ⟨c2,s2,d2⟩:=g
  simp only at d1 d2 h
  rw [d1,d2,h]
 ·exact decide_eq_false λh=>of_decide_eq_false c2 (by rw [h])
 ·exact decide_eq_false λh=>of_decide_eq_false c1 (by rw [h])
def fX (f:FtV):Bs:=bif lf f then bT f.c::bT f.s::bV f.d else []
def Fb (l:List TV)(v:Bs):Prop:=∃o:OpV,l=o.cells∧qT o∧v=dU o
def Fc (l:List TV)(v:Bs):Prop:=∃u:UpV,l=u.cells∧jI u∧v=iu u
def Fd (l:List TV)(v:Bs):Prop:=∃f:FtV,l=f.cells∧byt f.d∧v=fX f
structure MsV where
 k:Int
 op:OpV
 u:UpV
 f:FtV
deriving DecidableEq
def MsV.cells (m:MsV):List TV:=.val (.int .i64 m.k)::(m.op.cells++(m.u.cells++m.f.cells))
def gG (m:MsV):Prop:=qT m.op∧jI m.u∧byt m.f.d
def fO:Bs:=bV (List.replicate 16 255)
def Fe:OpV:=⟨0,0,0,[]⟩
def Ff:UpV:=⟨[],BC,[]⟩
def Fg:FtV:=⟨0,0,[]⟩
def aa9:MsV:=⟨0,Fe,Ff,Fg⟩
def Ys:List TV→MsV
 |[.val (.int _ k),.val (.int _ n),.val (.int _ h),.val (.int _ i),.vec _ l _,.vec _ w _,.val (.int _ o),.vec _ p _,.val (.int _ j),.val (.int _ m),.val (.bool b),.vec _ x _,.val (.int _ c),.val (.int _ s),.vec _ d _]=>⟨k,⟨n,h,i,l.map Hi⟩,⟨wK w,⟨o,By p,j,m,b⟩,wK x⟩,⟨c,s,bZ d⟩⟩
 |_=>aa9
def Jl (a b:MsV):Prop:=a.op.l.length=b.op.l.length→lZ a.op.l∧lZ b.op.l
def Fh (l m:List TV):Prop:=∃a b:MsV,l=a.cells∧m=b.cells∧(gG a∧gG b)∧Jl a b
def u7 (l m:List TV)(ok:Bool):Prop:=ok=decide (Ys l=Ys m)
def u9:List TV:= [.val (.int .i64 0),.val (.int .i64 0),.val (.int .u32 0),.vec 2 [] .none]
def te:List TV:= [.vec 2 [] .none,.val (.int .i64 0),.vec 1 [] .none,.val (.int .u32 0),.val (.int .i64 0),.val (.bool false),.vec 2 [] .none]
def tf:List TV:= [.val (.int .i64 0),.val (.int .i64 0),.vec 1 [] .none]
def Q3 (v1 v2 v3:Bs):aW:=λ_ ys T K=>match ys with
 |[.ifc 173 (.agg l)]=>Fb l v1∧K (.tup [.vec 1 v1 .none,.agg (.val (.int .i64 1)::(l++(te++tf))),.val (.bool (decide ((v1.length:Int)>0)))]) T
 |[.ifc 176 (.agg l)]=>Fc l v2∧K (.tup [.vec 1 v2 .none,.agg (.val (.int .i64 2)::(u9++(l++tf))),.val (.bool (decide ((v2.length:Int)>0)))]) T
 |[.ifc 179 (.agg l)]=>Fd l v3∧K (.tup [.vec 1 v3 .none,.agg (.val (.int .i64 3)::(u9++(te++l))),.val (.bool (decide ((v3.length:Int)>0)))]) T
 |[.ifc 181 (.agg [])]=>K (.tup [.val (.slice none 0 0),.agg (.val (.int .i64 4)::(u9++(te++tf))),.val (.bool true)]) T
 |[.val .nilIface]=>K (.tup [.val (.slice none 0 0),.agg (.val (.int .i64 0)::(u9++(te++tf))),.val (.bool false)]) T
 |_=>aJ 84 default ys
def Q4:aW:=λ_ ys T K=>match ys with
 |[.agg l,.agg m]=>Fh l m∧∀ok:Bool,u7 l m ok→K (.val (.bool ok)) T
 |_=>aJ 84 default ys
def Fi:List TV:= [.val (.int .u8 255),.val (.int .u8 255),.val (.int .u8 255),.val (.int .u8 255),.val (.int .u8 255),.val (.int .u8 255),.val (.int .u8 255),.val (.int .u8 255),.val (.int .u8 255),.val (.int .u8 255),.val (.int .u8 255),.val (.int .u8 255),.val (.int .u8 255),.val (.int .u8 255),.val (.int .u8 255),.val (.int .u8 255)]
def Pi:aW:=λro ys T K=>match ys with
 |[.sl i 0 16 16,.val (.int .u64 n),.val (.int .i64 k)]=>((@Eq Bool (ble ro i) true)∧(@Eq (Option VO) (T.objs[i]?) (some (.cells Fi))))∧(cT n k∧K (.vec 1 (fO++aw k n) .none) T)
 |_=>aJ 84 default ys
def Q5:aW:=λro ys T K=>match ys with
 |[.sl i 0 16 16,.val (.int q n)]=>((q=.i64)∧((@Eq Bool (ble ro i) true)∧(@Eq (Option VO) (T.objs[i]?) (some (.cells Fi)))))∧(cT n 2∧K (.vec 1 (fO++aw 2 n) .none) T)
 |_=>aJ 84 default ys
def Yt (T:VT):List TV→Option (TV × Option VT)
 |[.vec _ A _,.vec _ b _]=>some (.vec 1 (A++b) (.tail 0 (0+b.length)),some {T with tails:= [(0+b.length,1,false)]})
 |[.vec _ A _,_]=>some (.vec 1 A (.tail 0 0),some {T with tails:= [(0,1,false)]})
 |_=>none
def Z8:jq:=λo σ T=>match o.dst with
 |some d=>bif beq d 34 then Yt T σ else bif beq d 999998 then some (.dead,none) else none
 |none=>none
theorem Z9 (n h i:Int)(l v:Bs)(Q:TV→Prop):ar prog ae (aF [(QL,zy Fb v)]) (aZ [(999998,.dead,none)]) 300 aN 0 rL [.ifc 173 (.agg [.val (.int .i64 n),.val (.int .i64 h),.val (.int .u32 i),.vec 2 l .none])] am (λx _=>Q x)=
 (Fb (w8 n h i l) (v)∧
 (((@Eq (Option TV) (.some (Dy n h i l)) (.some (Dy n h i l)))∧
 ((@Eq (Option TV) (.some (Dy n h i l)) (.some (Dy n h i l)))∧
 True))∧
 Q (.tup [(av v),(.agg [dK,(ah n),(ah h),(cd i),(aY l),aE,aB,aE,bD,aB,aj,aE,aB,aB,aE]),(cS (decide ((↑(length v):Int)>(0:Int))))]))):=by kernel_rfl
theorem aaa (w p n v:Bs)(o h m:Int)(hm:Bool)(Q:TV→Prop):ar prog ae (aF [(Qx,zy Fc v)]) (aZ [(999998,.dead,none)]) 300 aN 0 rL [.ifc 176 (.agg [.vec 2 w .none,.val (.int .i64 o),.vec 1 p .none,.val (.int .u32 h),.val (.int .i64 m),.val (.bool hm),.vec 2 n .none])] am (λx _=>Q x)=
 (Fc (t9 w o p h m hm n) (v)∧
 (((@Eq (Option TV) (.some (Dx w o p h m hm n)) (.some (Dx w o p h m hm n)))∧
 ((@Eq (Option TV) (.some (Dx w o p h m hm n)) (.some (Dx w o p h m hm n)))∧
 True))∧
 Q (.tup [(av v),(.agg [dk,aB,aB,bD,aE,(aY w),(ah o),(av p),(cd h),(ah m),(cS hm),(aY n),aB,aB,aE]),(cS (decide ((↑(length v):Int)>(0:Int))))]))):=by kernel_rfl
theorem Yu (c s:Int)(d v:Bs)(Q:TV→Prop):ar prog ae (aF [(QO,zy Fd v)]) (aZ [(999998,.dead,none)]) 300 aN 0 rL [.ifc 179 (.agg [.val (.int .i64 c),.val (.int .i64 s),.vec 1 d .none])] am (λx _=>Q x)=
 (Fd (t8 c s d) (v)∧
 (((@Eq (Option TV) (.some (qd c s d)) (.some (qd c s d)))∧
 ((@Eq (Option TV) (.some (qd c s d)) (.some (qd c s d)))∧
 True))∧
 Q (.tup [(av v),(.agg [dV,aB,aB,bD,aE,aE,aB,aE,bD,aB,aj,aE,(ah c),(ah s),(av d)]),(cS (decide ((↑(length v):Int)>(0:Int))))]))):=by kernel_rfl
theorem aab (Q:TV→Prop):ar prog ae bt (aZ [(999998,.dead,none)]) 300 aN 0 rL [.ifc 181 (.agg [])] am (λx _=>Q x)=
Q (.tup [aE,(.agg [lG,aB,aB,bD,aE,aE,aB,aE,bD,aB,aj,aE,aB,aB,aE]),aI]):=by kernel_rfl
theorem aac (Q:TV→Prop):ar prog ae bt (aZ [(999998,.dead,none)]) 300 aN 0 rL [.val .nilIface] am (λx _=>Q x)=
Q (.tup [aE,DC,aj]):=by kernel_rfl
theorem TR (n:Int)(Q:TV→VT→Prop):ar prog ae (aF [(eS,Pi)]) aT 300 aN 0 jH [.sl 0 0 16 16,.val (.int .i64 n)] (cu (.cells Fi)) Q=
 (((@Eq (Bool) true true)∧
 (@Eq (Option VO) (.some dA) (.some dA)))∧
 (cT (wrap u64 n) 2∧
 Q (av (fO++aw (2:Int) (wrap u64 n))) ⟨[dA],[]⟩)):=by kernel_rfl
abbrev Cu (k:Int):TV:=(pd (fO++aw (2:Int) (wrap i64 ((19:Int)+(↑(0:Nat):Int)))++aw (1:Int) k))
abbrev Jm (v1:Bs)(k:Int):TV:=(bS (fO++aw (2:Int) (wrap i64 ((19:Int)+(↑(length v1):Int)))++aw (1:Int) k++v1) ((0:Nat)+length v1))
abbrev Jn (v2:Bs)(k:Int):TV:=(bS (fO++aw (2:Int) (wrap i64 ((19:Int)+(↑(length v2):Int)))++aw (1:Int) k++v2) ((0:Nat)+length v2))
abbrev Jo (v3:Bs)(k:Int):TV:=(bS (fO++aw (2:Int) (wrap i64 ((19:Int)+(↑(length v3):Int)))++aw (1:Int) k++v3) ((0:Nat)+length v3))
theorem aad (k n h i o j m c s:Int)(b:Bool)(l w p x d v1 v2 v3:Bs)(Q:TV→Prop):ar prog ae (aF [(rL,Q3 v1 v2 v3),(Mm,Q4),(nY,pK .i64 1),(jH,Q5)]) Z8 300 aN 0 Hh [.agg [.val (.int .i64 k),.val (.int .i64 n),.val (.int .i64 h),.val (.int .u32 i),.vec 2 l .none,.vec 2 w .none,.val (.int .i64 o),.vec 1 p .none,.val (.int .u32 j),.val (.int .i64 m),.val (.bool b),.vec 2 x .none,.val (.int .i64 c),.val (.int .i64 s),.vec 1 d .none]] am (λx _=>Q x)=
 (bif ax eql (k6 k (1:Int))
 then (Fb (w8 n h i l) (v1)∧
 (bif !decide ((↑(length v1):Int)>(0:Int))
 then Q aE
 else (Fh (pg k n h i l w o p j m b x c s d) (ND n h i l)∧
 (∀ok:Bool,(u7 (pg k n h i l w o p j m b x c s d) (ND n h i l) (ok)→(bif !ok
 then Q aE
 else (((@Eq (IntKind) .i64 .i64)∧
 ((@Eq (Bool) true true)∧
 (@Eq (Option VO) (.some dA) (.some dA))))∧
 (cT (wrap i64 ((19:Int)+(↑(length v1):Int))) 2∧
 (((@Eq (Option TV) (.some (ah k)) (.some (ah k)))∧
 (True  ∧
 True))∧
 ((@Eq (IntKind) .i64 .i64)∧
 ((cT (k) 1∧
 iP (fO++aw (2:Int) (wrap i64 ((19:Int)+(↑(length v1):Int)))))∧
 (bb prog (λ_=>.none) 0 (NC k n h i l w o p j m b x c s d k n h i l w o p j m b x c s d n h i l [(0,(1,false))]) (.call ⟨(.builtin .append),#[(.tmp 32),(.tmp 33)],#[22,22]⟩) [(32,(pd (fO++aw (2:Int) (wrap i64 ((19:Int)+(↑(length v1):Int)))++aw (1:Int) k))),(33,(av v1))] (Jm v1 k) (NC k n h i l w o p j m b x c s d k n h i l w o p j m b x c s d n h i l [(((0:Nat)+length v1),(1,false))])∧
 Q (Jm v1 k)))))))))))))
 else (bif ax eql (k6 k (2:Int))
 then (Fc (t9 w o p j m b x) (v2)∧
 (bif !decide ((↑(length v2):Int)>(0:Int))
 then Q aE
 else (Fh (pg k n h i l w o p j m b x c s d) [dk,aB,aB,bD,fK,(aY w),(ah o),(av p),(cd j),(ah m),(cS b),(aY x),aB,aB,ij]∧
 (∀ok:Bool,(u7 (pg k n h i l w o p j m b x c s d) [dk,aB,aB,bD,fK,(aY w),(ah o),(av p),(cd j),(ah m),(cS b),(aY x),aB,aB,ij] (ok)→(bif !ok
 then Q aE
 else (((@Eq (IntKind) .i64 .i64)∧
 ((@Eq (Bool) true true)∧
 (@Eq (Option VO) (.some dA) (.some dA))))∧
 (cT (wrap i64 ((19:Int)+(↑(length v2):Int))) 2∧
 (((@Eq (Option TV) (.some (ah k)) (.some (ah k)))∧
 (True  ∧
 True))∧
 ((@Eq (IntKind) .i64 .i64)∧
 ((cT (k) 1∧
 iP (fO++aw (2:Int) (wrap i64 ((19:Int)+(↑(length v2):Int)))))∧
 (bb prog (λ_=>.none) 0 (NB k n h i l w o p j m b x c s d k n h i l w o p j m b x c s d w o p j m b x [(0,(1,false))]) (.call ⟨(.builtin .append),#[(.tmp 32),(.tmp 33)],#[22,22]⟩) [(32,(pd (fO++aw (2:Int) (wrap i64 ((19:Int)+(↑(length v2):Int)))++aw (1:Int) k))),(33,(av v2))] (Jn v2 k) (NB k n h i l w o p j m b x c s d k n h i l w o p j m b x c s d w o p j m b x [(((0:Nat)+length v2),(1,false))])∧
 Q (Jn v2 k)))))))))))))
 else (bif ax eql (k6 k (3:Int))
 then (Fd (t8 c s d) (v3)∧
 (bif !decide ((↑(length v3):Int)>(0:Int))
 then Q aE
 else (Fh (pg k n h i l w o p j m b x c s d) (NA c s d)∧
 (∀ok:Bool,(u7 (pg k n h i l w o p j m b x c s d) (NA c s d) (ok)→(bif !ok
 then Q aE
 else (((@Eq (IntKind) .i64 .i64)∧
 ((@Eq (Bool) true true)∧
 (@Eq (Option VO) (.some dA) (.some dA))))∧
 (cT (wrap i64 ((19:Int)+(↑(length v3):Int))) 2∧
 (((@Eq (Option TV) (.some (ah k)) (.some (ah k)))∧
 (True  ∧
 True))∧
 ((@Eq (IntKind) .i64 .i64)∧
 ((cT (k) 1∧
 iP (fO++aw (2:Int) (wrap i64 ((19:Int)+(↑(length v3):Int)))))∧
 (bb prog (λ_=>.none) 0 (Nz k n h i l w o p j m b x c s d k n h i l w o p j m b x c s d c s d [(0,(1,false))]) (.call ⟨(.builtin .append),#[(.tmp 32),(.tmp 33)],#[22,22]⟩) [(32,(pd (fO++aw (2:Int) (wrap i64 ((19:Int)+(↑(length v3):Int)))++aw (1:Int) k))),(33,(av v3))] (Jo v3 k) (Nz k n h i l w o p j m b x c s d k n h i l w o p j m b x c s d c s d [(((0:Nat)+length v3),(1,false))])∧
 Q (Jo v3 k)))))))))))))
 else (bif ax eql (k6 k (4:Int))
 then (Fh (pg k n h i l w o p j m b x c s d) Ny∧
 (∀ok:Bool,(u7 (pg k n h i l w o p j m b x c s d) Ny (ok)→(bif !ok
 then Q aE
 else (((@Eq (IntKind) .i64 .i64)∧
 ((@Eq (Bool) true true)∧
 (@Eq (Option VO) (.some dA) (.some dA))))∧
 (cT 19 2∧
 (((@Eq (Option TV) (.some (ah k)) (.some (ah k)))∧
 (True  ∧
 True))∧
 ((@Eq (IntKind) .i64 .i64)∧
 ((cT (k) 1∧
 iP (fO++aw (2:Int) (wrap i64 ((19:Int)+(↑(0:Nat):Int)))))∧
 (bb prog (λ_=>.none) 0 (Nx k n h i l w o p j m b x c s d k n h i l w o p j m b x c s d [(0,(1,false))]) (.call ⟨(.builtin .append),#[(.tmp 32),(.tmp 33)],#[22,22]⟩) [(32,(Cu k)),(33,aE)] (Cu k) (Nx k n h i l w o p j m b x c s d k n h i l w o p j m b x c s d [(0,(1,false))])∧
 Q (Cu k)))))))))))
 else Q aE)))):=by kernel_rfl
theorem va {f:FtV}(hf:byt f.d):IsB (fX f)∧(fX f).length≤4077:=by
 unfold fX
 cases hg:lf f
 ·exact ⟨.nil,zero_le _⟩
 ·unfold lf at hg
  simp only [and_eq_true,decide_eq_true_eq] at hg
  obtain ⟨h1,h2,h3,h4,h5⟩:=hg
  have hl:(bT f.c::bT f.s::bV f.d).length≤4077:=by simp only [length_cons,kB];omega
  refine ⟨⟨⟨f.c::f.s::f.d,rfl,λz hz=> ?_⟩,by simp only [cond_true];omega⟩,hl⟩
  rcases mem_cons.1 hz with rfl | hz
  ·omega
  rcases mem_cons.1 hz with rfl | hz
  ·omega
  exact hf.1 z hz
theorem Yv (v:Bs):∀ro ys T K,zy Fb v ro ys T K→VCx prog ae ro QL ys T K:=by
 intro ro ys T K hw
 unfold zy at hw
 split at hw
 ·obtain ⟨⟨o,rfl,ho,rfl⟩,hk⟩:=hw
  exact VCx.liftPure au (Yi ho) (by simp only [ap,TV.ren,o.ren]) (λf g=>by simp only [TV.ren,(pM ho.1).1.ren,Tok.ren]) hk
 ·exact hw.elim
theorem TS (v:Bs):∀ro ys T K,zy Fc v ro ys T K→VCx prog ae ro Qx ys T K:=by
 intro ro ys T K hw
 unfold zy at hw
 split at hw
 ·obtain ⟨⟨u,rfl,hu,rfl⟩,hk⟩:=hw
  exact VCx.liftPure au (X3 hu) (by simp only [ap,TV.ren,u.ren]) (λf g=>by simp only [TV.ren,(u3 hu).1.ren,Tok.ren]) hk
 ·exact hw.elim
theorem Yw (v:Bs):∀ro ys T K,zy Fd v ro ys T K→VCx prog ae ro QO ys T K:=by
 intro ro ys T K hw
 unfold zy at hw
 split at hw
 ·obtain ⟨⟨f,rfl,hf,rfl⟩,hk⟩:=hw
  exact VCx.liftPure au (Yq hf) (by simp only [ap,TV.ren,f.ren]) (λg h=>by
   have:=(va hf).1.ren g h
   unfold fX at this
   simp only [TV.ren,this,Tok.ren]) hk
 ·exact hw.elim
def zA (v:Bs)(l:List TV)(ok:Bool):TV:=.tup [.vec 1 v .none,.agg l,.val (.bool ok)]
theorem vZ {v:Bs}{l:List TV}(hv:IsB v)(hl:∀f g,ap f g l=l)(ok:Bool)(f g:Nat→Option Nat):(zA v l ok).ren f g=zA v l ok:=by
 simp only [zA,TV.ren,ap,hv.ren,hl,Tok.ren]
theorem zB (f g:Nat→Option Nat):ap f g u9=u9∧ap f g te=te∧ap f g tf=tf:=⟨rfl,rfl,rfl⟩
theorem Yx {o:OpV}(ho:qT o):VCx prog ae 0 rL [.ifc 173 (.agg o.cells)] ⟨[],[]⟩ λx T'=>x=zA (dU o) (.val (.int .i64 1)::(o.cells++(te++tf))) (decide (((dU o).length:Int)>0))∧T'=⟨[],[]⟩:=by
 have hy:=vZ (v:=dU o) (l:=.val (.int .i64 1)::(o.cells++(te++tf))) (pM ho.1).1 (λf g=>by simp only [ap,TV.ren,mG,o.ren,zB]) (decide (((dU o).length:Int)>0))
 refine VCx.toLe (Q:=λT'=>T'=⟨[],[]⟩) (VCx.keepV (Q:=λx=>TVle x (zA (dU o) (.val (.int .i64 1)::(o.cells++(te++tf))) (decide (((dU o).length:Int)>0)))) (ak ac aa (aL λp hp=>by obtain rfl:=mem_singleton.1 hp;exact Yv _) ai (Z9 o.n o.h o.i (bM o.l) (dU o) _) ⟨⟨o,rfl,ho,rfl⟩,⟨rfl,rfl,trivial⟩,?_⟩))
 have hB:=(pM ho.1).1
 simp only [TV.ren,ap,hB.ren,lg,Tok.ren]
 exact .tup ⟨.refl _,.agg ⟨.refl _,.refl _,.refl _,.refl _,.refl _,.nil 2,.refl _,.nil 1,.refl _,.refl _,.refl _,.nil 2,.refl _,.refl _,.nil 1,trivial⟩,.refl _,trivial⟩
theorem TU {u:UpV}(hu:jI u):VCx prog ae 0 rL [.ifc 176 (.agg u.cells)] ⟨[],[]⟩ λx T'=>x=zA (iu u) (.val (.int .i64 2)::(u9++(u.cells++tf))) (decide (((iu u).length:Int)>0))∧T'=⟨[],[]⟩:=by
 refine VCx.toLe (Q:=λT'=>T'=⟨[],[]⟩) (VCx.keepV (Q:=λx=>TVle x (zA (iu u) (.val (.int .i64 2)::(u9++(u.cells++tf))) (decide (((iu u).length:Int)>0)))) (ak ac aa (aL λp hp=>by obtain rfl:=mem_singleton.1 hp;exact TS _) ai (aaa (bm u.w) (iV u.a.p) (bm u.n) (iu u) u.a.o u.a.h u.a.m u.a.hm _) ⟨⟨u,rfl,hu,rfl⟩,⟨rfl,rfl,trivial⟩,?_⟩))
 have hB:=(u3 hu).1
 simp only [TV.ren,ap,hB.ren,ii,dm,Tok.ren]
 exact .tup ⟨.refl _,.agg ⟨.refl _,.refl _,.refl _,.refl _,.nil 2,.refl _,.refl _,.refl _,.refl _,.refl _,.refl _,.refl _,.refl _,.refl _,.nil 1,trivial⟩,.refl _,trivial⟩
theorem TW {f:FtV}(hf:byt f.d):VCx prog ae 0 rL [.ifc 179 (.agg f.cells)] ⟨[],[]⟩ λx T'=>x=zA (fX f) (.val (.int .i64 3)::(u9++(te++f.cells))) (decide (((fX f).length:Int)>0))∧T'=⟨[],[]⟩:=by
 refine VCx.toLe (Q:=λT'=>T'=⟨[],[]⟩) (VCx.keepV (Q:=λx=>TVle x (zA (fX f) (.val (.int .i64 3)::(u9++(te++f.cells))) (decide (((fX f).length:Int)>0)))) (ak ac aa (aL λp hp=>by obtain rfl:=mem_singleton.1 hp;exact Yw _) ai (Yu f.c f.s (bV f.d) (fX f) _) ⟨⟨f,rfl,hf,rfl⟩,⟨rfl,rfl,trivial⟩,?_⟩))
 have hB:=(va hf).1
 simp only [TV.ren,ap,hB.ren,o9,Tok.ren]
 exact .tup ⟨.refl _,.agg ⟨.refl _,.refl _,.refl _,.refl _,.nil 2,.nil 2,.refl _,.nil 1,.refl _,.refl _,.refl _,.nil 2,.refl _,.refl _,.refl _,trivial⟩,.refl _,trivial⟩
def Q6 (k:Int)(ok:Bool):TV:=.tup [.val (.slice none 0 0),.agg (.val (.int .i64 k)::(u9++(te++tf))),.val (.bool ok)]
theorem Yy:VCx prog ae 0 rL [.ifc 181 (.agg [])] ⟨[],[]⟩ λx T'=>x=Q6 4 true∧T'=⟨[],[]⟩:=by
 refine VCx.toLe (Q:=λT'=>T'=⟨[],[]⟩) (VCx.keepV (Q:=λx=>TVle x (Q6 4 true)) (ak ac aa an ai (aab _) ?_))
 exact .tup ⟨.refl _,.agg ⟨.refl _,.refl _,.refl _,.refl _,.nil 2,.nil 2,.refl _,.nil 1,.refl _,.refl _,.refl _,.nil 2,.refl _,.refl _,.nil 1,trivial⟩,.refl _,trivial⟩
theorem Yz:VCx prog ae 0 rL [.val .nilIface] ⟨[],[]⟩ λx T'=>x=Q6 0 false∧T'=⟨[],[]⟩:=by
 refine VCx.toLe (Q:=λT'=>T'=⟨[],[]⟩) (VCx.keepV (Q:=λx=>TVle x (Q6 0 false)) (ak ac aa an ai (aac _) ?_))
 exact .tup ⟨.refl _,.agg ⟨.refl _,.refl _,.refl _,.refl _,.nil 2,.nil 2,.refl _,.nil 1,.refl _,.refl _,.refl _,.nil 2,.refl _,.refl _,.nil 1,trivial⟩,.refl _,trivial⟩
theorem YA (v1 v2 v3:Bs):∀ro ys T K,Q3 v1 v2 v3 ro ys T K→VCx prog ae ro rL ys T K:=by
 intro ro ys T K hw
 unfold Q3 at hw
 split at hw
 ·obtain ⟨⟨o,rfl,ho,rfl⟩,hk⟩:=hw
  exact VCx.liftPure au (Yx ho) (by simp only [ap,TV.ren,o.ren]) (vZ (pM ho.1).1 (λf g=>by simp only [ap,TV.ren,mG,o.ren,zB]) _) hk
 ·obtain ⟨⟨u,rfl,hu,rfl⟩,hk⟩:=hw
  exact VCx.liftPure au (TU hu) (by simp only [ap,TV.ren,u.ren]) (vZ (u3 hu).1 (λf g=>by simp only [ap,TV.ren,mG,u.ren,zB]) _) hk
 ·obtain ⟨⟨o,rfl,ho,rfl⟩,hk⟩:=hw
  exact VCx.liftPure au (TW ho) (by simp only [ap,TV.ren,o.ren]) (vZ (va ho).1 (λf g=>by simp only [ap,TV.ren,mG,o.ren,zB]) _) hk
 ·exact VCx.liftPure au Yy rfl (λ_ _=>rfl) hw
 ·exact VCx.liftPure au Yz rfl (λ_ _=>rfl) hw
 ·exact hw.elim
theorem MsV.ren (m:MsV)(f g:Nat→Option Nat):ap f g m.cells=m.cells:=by
 simp only [MsV.cells,ap,TV.ren,mG,m.op.ren,m.u.ren,m.f.ren]
theorem qB (m:MsV):Ys m.cells=m:=by
 obtain ⟨k,⟨n,h,i,l⟩,⟨w,⟨o,p,j,q,b⟩,x⟩,⟨c,s,d⟩⟩:=m
 show MsV.mk k ⟨n,h,i,(bM l).map Hi⟩ ⟨wK (bm w),⟨o,By (iV p),j,q,b⟩,wK (bm x)⟩ ⟨c,s,bZ (bV d)⟩=_
 rw [mP,iZ,iZ,kz,qA]
def MsV.toS (m:MsV):MsgS:=⟨m.k,⟨m.op.n,m.op.h,m.op.i,bM m.op.l⟩,⟨bm m.u.w,m.u.a.o,iV m.u.a.p,m.u.a.h,m.u.a.m,m.u.a.hm,bm m.u.n⟩,m.f.c,m.f.s,bV m.f.d⟩
theorem YB {a b:MsV}(ha:gG a)(hb:gG b)(hc:Jl a b):VCx prog ae 0 Mm [.agg a.cells,.agg b.cells] ⟨[],[]⟩ λx T'=>x=.val (.bool (decide (a=b)))∧T'=⟨[],[]⟩:=by
 have hS:bf prog ae (aF [(QM,td Jh (decide (a.op=b.op))),(Qy,td Ji (decide (a.u=b.u))),(QP,td Jj (decide (a.f=b.f)))]):=aL λp hp=>by
  rcases mem_cons.1 hp with rfl | hp
  ·intro ro ys T K hw
   replace hw:td Jh (decide (a.op=b.op)) ro ys T K:=hw
   unfold td at hw
   split at hw
   ·obtain ⟨⟨p,q,⟨rfl,rfl⟩,h1,e⟩,hk⟩:=hw
    rw [e] at hk
    exact VCx.liftPure au (Yn h1) (by simp only [ap,TV.ren,OpV.ren]) (λ_ _=>rfl) hk
   ·exact hw.elim
  rcases mem_cons.1 hp with rfl | hp
  ·intro ro ys T K hw
   replace hw:td Ji (decide (a.u=b.u)) ro ys T K:=hw
   unfold td at hw
   split at hw
   ·obtain ⟨⟨p,q,⟨rfl,rfl⟩,⟨h1,h2⟩,e⟩,hk⟩:=hw
    rw [e] at hk
    exact VCx.liftPure au (X4 h1 h2.2.2.1) (by simp only [ap,TV.ren,UpV.ren]) (λ_ _=>rfl) hk
   ·exact hw.elim
  ·obtain rfl:=mem_singleton.1 hp
   intro ro ys T K hw
   replace hw:td Jj (decide (a.f=b.f)) ro ys T K:=hw
   unfold td at hw
   split at hw
   ·obtain ⟨⟨p,q,⟨rfl,rfl⟩,⟨h1,h2⟩,e⟩,hk⟩:=hw
    rw [e] at hk
    exact VCx.liftPure au (Yr h1 h2) (by simp only [ap,TV.ren,FtV.ren]) (λ_ _=>rfl) hk
   ·exact hw.elim
 refine VCx.keepV (Q:=λx=>x=.val (.bool (decide (a=b)))) (ak ac aa hS ai (Z6 a.toS b.toS (decide (a.op=b.op)) (decide (a.u=b.u)) (decide (a.f=b.f)) _) ?_)
 have fin:∀q:Bool,decide (a=b)=q→(TV.val (.bool q)).ren (aA 0) (aA 0)=.val (.bool (decide (a=b))):=λq h=>by rw [h];rfl
 rw [gH]
 refine aq (λc1=>⟨⟨a.op,b.op,⟨rfl,rfl⟩,hc,rfl⟩,aq (λc2=>⟨⟨a.u,b.u,⟨rfl,rfl⟩,⟨ha.2.1,hb.2.1⟩,rfl⟩,aq (λc3=>⟨⟨a.f,b.f,⟨rfl,rfl⟩,⟨ha.2.2,hb.2.2⟩,rfl⟩,fin _ ?_⟩) (λc3=>fin _ ?_)⟩) (λc2=>fin _ ?_)⟩) (λc1=>fin _ ?_)
 ·have d1:a.k=b.k:=of_decide_eq_true c1
  have d2:=of_decide_eq_true c2
  have d3:=of_decide_eq_true c3
  refine decide_eq_decide.2 ⟨λh=>by rw [h],λh=> ?_⟩
  obtain ⟨k,o,u,f⟩:=a
  obtain ⟨k2,o2,u2,f2⟩:=b
  simp only at d1 d2 d3 h
  rw [d1,d2,d3,h]
 ·exact decide_eq_false λh=>of_decide_eq_false c3 (by rw [h])
 ·exact decide_eq_false λh=>of_decide_eq_false c2 (by rw [h])
 ·exact decide_eq_false λh=>of_decide_eq_false c1 (by rw [h])
theorem YC:∀ro ys T K,Q4 ro ys T K→VCx prog ae ro Mm ys T K:=by
 intro ro ys T K hw
 unfold Q4 at hw
 split at hw
 ·obtain ⟨⟨a,b,rfl,rfl,⟨h1,h2⟩,h3⟩,hk⟩:=hw
  exact VCx.liftPure au (YB h1 h2 h3) (by simp only [ap,TV.ren,MsV.ren]) (λ_ _=>rfl) (hk _ (by unfold u7;rw [qB,qB]))
 ·exact hw.elim
section
theorem xH {objs:List VO}{A c:Bs}{s x:Nat}{l:List (Nat × TV)}(hs:aP ae l (.tmp s)=.vec 1 A (.tail 0 0))(hx:aP ae l (.tmp x)=.vec 1 c .none)(h:A.length+c.length≤32000000):
  bb prog ae 0 ⟨objs,[(0,1,false)]⟩ (.call ⟨.builtin .append,#[.tmp s,.tmp x],#[22,22]⟩) l (.vec 1 (A++c) (.tail 0 (0+c.length))) ⟨objs,[(0+c.length,1,false)]⟩:=
 jV (ro:=0) (T:=⟨objs,[(0,1,false)]⟩) (T1:=⟨objs,[(0,1,false)]⟩) (s:=.tmp s) (x:=.tmp x) (l:=l) (es:=A) (es2:=c) (k:=0) (n:=0) (bn:=false) (by rw [hs];rfl) (by rw [hx];rfl) (by omega)
theorem Mu {objs:List VO}{A:Bs}{s x:Nat}{l:List (Nat × TV)}(hs:aP ae l (.tmp s)=.vec 1 A (.tail 0 0))(hx:aP ae l (.tmp x)=.val (.slice none 0 0))(h:A.length≤32000000):
  bb prog ae 0 ⟨objs,[(0,1,false)]⟩ (.call ⟨.builtin .append,#[.tmp s,.tmp x],#[22,22]⟩) l (.vec 1 A (.tail 0 0)) ⟨objs,[(0,1,false)]⟩:=by
 have h:=jV (ro:=0) (T:=⟨objs,[(0,1,false)]⟩) (T1:=⟨objs,[(0,1,false)]⟩) (s:=.tmp s) (x:=.tmp x) (l:=l) (es:=A) (es2:= []) (k:=0) (n:=0) (bn:=false) (by rw [hs];rfl) (by rw [hx];rfl) (by simp;omega)
 rw [append_nil] at h
 exact h
theorem Cv:PwM 16 fO:=⟨⟨⟨_,rfl,λz hz=>by rw [List.eq_of_mem_replicate hz];decide⟩,by unfold fO;rw [kB];decide⟩,by decide,by unfold fO;rw [kB];decide⟩
theorem TX:Fi=(List.replicate 16 (Value.int .u8 255)).map .val:=rfl
theorem TY {ro i:Nat}{T:VT}{n k:Nat}(hk:k≤8)(ho:T.objs[i]?=some (.cells Fi)):VCx prog ae ro eS [.sl i 0 16 16,.val (.int .u64 n),.val (.int .i64 k)] T λx T'=>x=.vec 1 (fO++uQ k n) .none∧T'=T:=by
  have hvs:(List.replicate 16 (Value.int .u8 255)++jx (dr n k)).length=16+k:=by rw [length_append,List.length_replicate];simp [jx,dr]
  have h:=VCx.ofOwnAt (P:=prog) (G:=ae) (ro:=ro) (T:=T) (f:=eS) (xs:= [.sl i 0 16 16,.val (.int .u64 n),.val (.int .i64 k)]) (ty:=5) (vs:=List.replicate 16 (Value.int .u8 255)++jx (dr n k)) (λv hv=> ?_) (by rw [hvs];unfold maxLen;omega) (λg w us r hx=> ?_)
  · refine h.mono ?_
    rintro x T' ⟨rfl,rfl⟩
    refine ⟨?_,rfl⟩
    rw [List.map_append,uR,←lc];rfl
  · rcases mem_append.1 hv with hv | hv
    · rw [List.eq_of_mem_replicate hv];rfl
    · obtain ⟨z,_,rfl⟩:=mem_map.1 hv;rfl
  · match us,hx.1 with
    |[v,u1,u2],_=>
      have hv:=hx.2 0 _ v rfl rfl
      obtain rfl:=(hx.2 1 _ u1 rfl rfl).val_inv
      obtain rfl:=(hx.2 2 _ u2 rfl rfl).val_inv
      have:=EK v 16 (List.replicate 16 (Value.int .u8 255)) (λu hu=>by rw [List.eq_of_mem_replicate hu];rfl) n k hk (by omega) w (ZL r (by rw [ho,TX]) hv (by simp) (by unfold maxLen;omega))
      rw [hvs];exact this
theorem TZ:∀ro ys T K,Pi ro ys T K→VCx prog ae ro eS ys T K:=by
 intro ro ys T K hw
 unfold Pi at hw
 split at hw
 ·rename_i i n k
  obtain ⟨⟨_,ho⟩,⟨⟨h1,_⟩,h2,h3⟩,hk⟩:=hw
  obtain ⟨n,rfl⟩:=eq_ofNat_of_zero_le h1
  obtain ⟨k,rfl⟩:=eq_ofNat_of_zero_le h2
  refine (TY (ro:=ro) (n:=n) (k:=k) (by omega) ho).mono ?_
  rintro x T' ⟨rfl,rfl⟩
  exact hk
 ·exact hw.elim
theorem YD:∀ro ys T K,Q5 ro ys T K→VCx prog ae ro jH ys T K:=by
 intro ro ys T K hw
 unfold Q5 at hw
 split at hw
 ·rename_i i q n
  obtain ⟨⟨rfl,hro,ho⟩,hn,hk⟩:=hw
  have hB:=(Cv.step (k:=2) (n:=n) (by decide) (by decide)).1
  refine VCx.atKeep (R:=λx=>x=.vec 1 (fO++aw 2 n) .none) (ys1:= [.sl 0 0 16 16,.val (.int .i64 n)]) au (Nat.le_of_ble_eq_true hro) ho rfl (λ_ _=>rfl) ?_ ?_ λx hx=> ?_
  ·simp only [ap,TV.ren]
   exact ⟨by simp [aU];exact .refl _,.refl _,trivial⟩
  ·exact ak ac aa (aL λp hp=>by obtain rfl:=mem_singleton.1 hp;exact TZ) ai (TR n _) ⟨⟨rfl,rfl⟩,by rw [kE hn.1.1 hn.1.2];exact hn,by rw [kE hn.1.1 hn.1.2];exact ⟨rfl,rfl⟩⟩
  ·subst hx;exact ⟨λf g=>by simp only [TV.ren,hB.ren,Tok.ren],hk⟩
 ·exact hw.elim
def Fj (m:MsV):MsV:=⟨1,m.op,Ff,Fg⟩
def Jp (m:MsV):MsV:=⟨2,Fe,m.u,Fg⟩
def Jq (m:MsV):MsV:=⟨3,Fe,Ff,m.f⟩
def nP:MsV:=⟨4,Fe,Ff,Fg⟩
def cX (m:MsV):Bs:=bif decide (m.k=1) then dU m.op else bif decide (m.k=2) then iu m.u else bif decide (m.k=3) then fX m.f else []
def fC (m:MsV):Bool:=bif decide (m.k=1) then decide (((dU m.op).length:Int)>0)&&decide (m=Fj m) else bif decide (m.k=2) then decide (((iu m.u).length:Int)>0)&&decide (m=Jp m) else bif decide (m.k=3) then decide (((fX m.f).length:Int)>0)&&decide (m=Jq m) else bif decide (m.k=4) then decide (m=nP) else false
def Mv (k:Int)(v:Bs):Bs:=fO++aw 2 (19+(v.length:Int))++aw 1 k++v
def cZ (m:MsV):Bs:=bif fC m then Mv m.k (cX m) else []
theorem Q7:qT Fe∧jI Ff∧byt Fg.d:=⟨⟨⟨(λ_ h=>by cases h),by decide⟩,by decide,by decide⟩,⟨by decide,by decide,by decide,by decide,by decide⟩,⟨(λ_ h=>by cases h),by decide⟩⟩
theorem Mw:lZ []:=⟨(λ_ h=>by cases h),by decide⟩
theorem Pj {m:MsV}{o:MsV}(h:o.op.l= []):Jl m o:=λe=>by
 rw [h] at e ⊢
 rw [List.eq_nil_of_length_eq_zero e]
 exact ⟨Mw,Mw⟩
theorem YE {o:OpV}(ho:qT o)(hg:mO o.l=true):lZ o.l:=⟨λc hc=>⟨ho.1.1 c hc,by have h:=(jX ho.1 hg).1 c hc;have:=h.2.2;rw [kB] at this;omega⟩,ho.1.2⟩
theorem aba {m:MsV}(hm:gG m)(hd:decide (((dU m.op).length:Int)>0)=true):Jl m (Fj m):=λ_=>by
 have hg:j6 m.op=true:=by
  cases h:j6 m.op
  ·have e:dU m.op= []:=by unfold dU;rw [h];rfl
   rw [e] at hd;simp at hd
  ·rfl
 exact ⟨YE hm.1 (u6 hg).l,YE hm.1 (u6 hg).l⟩
theorem v6 {m o:MsV}{ok:Bool}(h:u7 m.cells o.cells ok):ok=decide (m=o):=by
 unfold u7 at h
 rwa [qB,qB] at h
theorem Q8 {k:Int}{v:Bs}(hv:IsB v)(hl:v.length≤4077):PwM 4109 (Mv k v):=((Cv.step (by decide) (by decide)).step (by decide) (by decide)).app (q:=4077) hv hl (by decide)
theorem zC {m:MsV}(hm:gG m):IsB (cX m)∧(cX m).length≤4077:=by
 unfold cX
 have h1:=pM hm.1.1
 have h2:=u3 hm.2.1
 have h3:=va hm.2.2
 cases decide (m.k=1)
 ·cases decide (m.k=2)
  ·cases decide (m.k=3)
   ·exact ⟨.nil,zero_le _⟩
   ·exact h3
  ·exact h2
 ·exact ⟨h1.1,le_trans h1.2 (by decide)⟩
attribute [local irreducible] fO aw
set_option maxHeartbeats 1000000 in
theorem YF {m:MsV}(hm:gG m):VCx prog ae 0 Hh [.agg m.cells] ⟨[],[]⟩ λx T'=>x=.vec 1 (cZ m) .none∧T'=⟨[],[]⟩:=by
 have hS:bf prog ae (aF [(rL,Q3 (dU m.op) (iu m.u) (fX m.f)),(Mm,Q4),(nY,pK .i64 1),(jH,Q5)]):=aL λp hp=>by
  rcases mem_cons.1 hp with rfl | hp;exact YA _ _ _
  rcases mem_cons.1 hp with rfl | hp;exact YC
  rcases mem_cons.1 hp with rfl | hp;exact E4
  obtain rfl:=mem_singleton.1 hp;exact YD
 refine VCx.toLe (Q:=λT'=>T'=⟨[],[]⟩) (VCx.keepV (Q:=λx=>TVle x (.vec 1 (cZ m) .none)) (ak ac aa hS ai (aad m.k m.op.n m.op.h m.op.i m.u.a.o m.u.a.h m.u.a.m m.f.c m.f.s m.u.a.hm (bM m.op.l) (bm m.u.w) (iV m.u.a.p) (bm m.u.n) (bV m.f.d) (dU m.op) (iu m.u) (fX m.f) _) ?_))
 have z:=Q7
 have nil:fC m=false→TVle ((TV.val (.slice none 0 0)).ren (aA 0) (aA 0)) (.vec 1 (cZ m) .none):=λh=>by unfold cZ;rw [h];exact .nil 1
 have some_:∀(k:Int) (v:Bs) (tok:Tok),m.k=k→fC m=true→cX m=v→IsB v→v.length≤4077→TVle ((TV.vec 1 (fO++aw 2 (19+(v.length:Int))++aw 1 m.k++v) tok).ren (aA 0) (aA 0)) (.vec 1 (cZ m) .none):=λk v tok hk hg hc hv hl=>by
  have h:=(Q8 (k:=m.k) hv hl).1
  have e:cZ m=Mv m.k v:=by unfold cZ;rw [hg,hc];rfl
  rw [e]
  simp only [TV.ren]
  rw [show bk (aA 0) (aA 0) (fO++aw 2 (19+(v.length:Int))++aw 1 m.k++v)=Mv m.k v from h.ren _ _]
  exact .vec 1 _ _
 have wN:∀n:Nat,n≤4077→i64.wrap (19+(n:Int))=19+(n:Int):=λn h=>b6 (by omega) (by omega)
 have pN:∀n:Nat,n≤4077→cT (19+(n:Int)) 2:=λn h=>⟨⟨by omega,by omega⟩,by decide,by decide⟩
 have hV:∀n:Int,iP (fO++aw 2 n):=λn=>(Cv.step (by decide) (by decide)).v
 have hH:∀n:Int,(fO++aw 2 n++aw 1 m.k).length≤32:=λn=>((Cv.step (k:=2) (n:=n) (by decide) (by decide)).step (k:=1) (n:=m.k) (by decide) (by decide)).2.2
 have h1:=pM hm.1.1
 have h2:=u3 hm.2.1
 have h3:=va hm.2.2
 iterate 4 (try delta ah cd bD fK dA bS Nx Ny am aY Nz NA dk NB NC ND av cS pd aE pg t8 t9 w8 aB ij Cu Jm Jn Jo)
 rw [gH,gH,gH,gH,wN _ (le_trans h1.2 (by decide)),wN _ h2.2,wN _ h3.2]
 refine aq (λc1=> ?_) (λc1=>aq (λc2=> ?_) (λc2=>aq (λc3=> ?_) (λc3=>aq (λc4=> ?_) (λc4=> ?_))))
 ·have hg:fC m=(decide (((dU m.op).length:Int)>0)&&decide (m=Fj m)):=by unfold fC;rw [c1];rfl
  have hc:cX m=dU m.op:=by unfold cX;rw [c1];rfl
  have hk:=of_decide_eq_true c1
  refine ⟨⟨_,rfl,hm.1,rfl⟩,?_⟩
  cases d:decide (((dU m.op).length:Int)>0)
  ·exact aS rfl (nil (by rw [hg,d];rfl))
  refine aO rfl ⟨⟨m,Fj m,rfl,rfl,⟨hm,hm.1,z.2.1,z.2.2⟩,aba hm d⟩,λok hok=> ?_⟩
  have e:=v6 (m:=m) (o:=Fj m) hok
  rw [d,←e,Bool.true_and] at hg
  subst hg
  cases hgg:fC m
  ·exact aS rfl (nil hgg)
  ·exact aO rfl ⟨⟨rfl,rfl,rfl⟩,pN _ (le_trans h1.2 (by decide)),⟨rfl,trivial,trivial⟩,rfl,⟨⟨⟨by omega,by omega⟩,by decide,by decide⟩,hV _⟩,xH (A:=fO++aw 2 (19+((dU m.op).length:Int))++aw 1 m.k) (c:=dU m.op) rfl rfl (by have:=hH (19+((dU m.op).length:Int));have:=h1.2;omega),some_ 1 _ _ hk hgg hc h1.1 (le_trans h1.2 (by decide))⟩
 ·have hg:fC m=(decide (((iu m.u).length:Int)>0)&&decide (m=Jp m)):=by unfold fC;rw [c1,c2];rfl
  have hc:cX m=iu m.u:=by unfold cX;rw [c1,c2];rfl
  have hk:=of_decide_eq_true c2
  refine ⟨⟨_,rfl,hm.2.1,rfl⟩,?_⟩
  cases d:decide (((iu m.u).length:Int)>0)
  ·exact aS rfl (nil (by rw [hg,d];rfl))
  refine aO rfl ⟨⟨m,Jp m,rfl,rfl,⟨hm,z.1,hm.2.1,z.2.2⟩,Pj rfl⟩,λok hok=> ?_⟩
  have e:=v6 (m:=m) (o:=Jp m) hok
  rw [d,←e,Bool.true_and] at hg
  subst hg
  cases hgg:fC m
  ·exact aS rfl (nil hgg)
  ·exact aO rfl ⟨⟨rfl,rfl,rfl⟩,pN _ h2.2,⟨rfl,trivial,trivial⟩,rfl,⟨⟨⟨by omega,by omega⟩,by decide,by decide⟩,hV _⟩,xH (A:=fO++aw 2 (19+((iu m.u).length:Int))++aw 1 m.k) (c:=iu m.u) rfl rfl (by have:=hH (19+((iu m.u).length:Int));have:=h2.2;omega),some_ 2 _ _ hk hgg hc h2.1 h2.2⟩
 ·have hg:fC m=(decide (((fX m.f).length:Int)>0)&&decide (m=Jq m)):=by unfold fC;rw [c1,c2,c3];rfl
  have hc:cX m=fX m.f:=by unfold cX;rw [c1,c2,c3];rfl
  have hk:=of_decide_eq_true c3
  refine ⟨⟨_,rfl,hm.2.2,rfl⟩,?_⟩
  cases d:decide (((fX m.f).length:Int)>0)
  ·exact aS rfl (nil (by rw [hg,d];rfl))
  refine aO rfl ⟨⟨m,Jq m,rfl,rfl,⟨hm,z.1,z.2.1,hm.2.2⟩,Pj rfl⟩,λok hok=> ?_⟩
  have e:=v6 (m:=m) (o:=Jq m) hok
  rw [d,←e,Bool.true_and] at hg
  subst hg
  cases hgg:fC m
  ·exact aS rfl (nil hgg)
  ·exact aO rfl ⟨⟨rfl,rfl,rfl⟩,pN _ h3.2,⟨rfl,trivial,trivial⟩,rfl,⟨⟨⟨by omega,by omega⟩,by decide,by decide⟩,hV _⟩,xH (A:=fO++aw 2 (19+((fX m.f).length:Int))++aw 1 m.k) (c:=fX m.f) rfl rfl (by have:=hH (19+((fX m.f).length:Int));have:=h3.2;omega),some_ 3 _ _ hk hgg hc h3.1 h3.2⟩
 ·have hg:fC m=decide (m=nP):=by unfold fC;rw [c1,c2,c3,c4];rfl
  have hc:cX m= []:=by unfold cX;rw [c1,c2,c3];rfl
  have hk:=of_decide_eq_true c4
  refine ⟨⟨m,nP,rfl,rfl,⟨hm,z⟩,Pj rfl⟩,λok hok=> ?_⟩
  have e:=v6 (m:=m) (o:=nP) hok
  rw [←e] at hg
  subst hg
  cases hgg:fC m
  ·exact aS rfl (nil hgg)
  ·have s4:=some_ 4 [] (.tail 0 0) hk hgg hc .nil (zero_le _)
   rw [append_nil] at s4
   exact aO rfl ⟨⟨rfl,rfl,rfl⟩,pN 0 (by decide),⟨rfl,trivial,trivial⟩,rfl,⟨⟨⟨by omega,by omega⟩,by decide,by decide⟩,hV _⟩,Mu rfl rfl (by have:=hH (i64.wrap (19+((0:Nat):Int)));omega),s4⟩
 ·exact nil (by unfold fC;rw [c1,c2,c3,c4];rfl)
end
--bumped 32
theorem pO (x r:Bs):cm (x.length:Int) (x++r) 0=x∧aG (x.length:Int) (x++r) 0=r∧aH (x.length:Int) (x++r) 0=0:=by
 have h:cR (x.length:Int) (x++r) 0=true:=by
  unfold cR
  rw [decide_eq_true (show (0:Int)=0 from rfl),decide_eq_true (show (0:Int)≤x.length by omega),decide_eq_true (show (x.length:Int)≤((x++r).length:Nat) by rw [length_append];omega)]
  rfl
 refine ⟨?_,?_,?_⟩
 ·unfold cm;rw [h];simp
 ·unfold aG;rw [h];simp
 ·unfold aH
  rw [decide_eq_true (show (0:Int)=0 from rfl),decide_eq_false (show ¬(x.length:Int)<0 by omega),decide_eq_true (show (x.length:Int)≤((x++r).length:Nat) by rw [length_append];omega)]
  rfl
theorem Cw {x r b:Bs}{n:Int}(hb:b=x++r)(hn:n=x.length):cm n b 0=x∧aG n b 0=r∧aH n b 0=0:=by subst hb hn;exact pO x r
theorem Fk {x r:Bs}{k:Nat}(hk:k=x.length):aR k (x++r) 0=fw x:=by
 subst hk
 have h:cR (x.length:Int) (x++r) 0=true:=by
  unfold cR
  rw [decide_eq_true (show (0:Int)=0 from rfl),decide_eq_true (show (0:Int)≤x.length by omega),decide_eq_true (show (x.length:Int)≤((x++r).length:Nat) by rw [length_append];omega)]
  rfl
 unfold aR;rw [h];simp
theorem lh (z:Int):fZ (bT z)=z:=rfl
theorem Fl {n:Int}(h:0≤n∧n<256):aw 1 n= [bT n]:=by
 obtain ⟨m,rfl⟩:=eq_ofNat_of_zero_le h.1
 show bV ((dr m 1).map λz:Nat=>(z:Int))=_
 have:dr m 1= [m/2^0%256]:=rfl
 rw [this]
 simp only [map_cons,map_nil,bV]
 rw [show m/2^0%256=m by omega]
theorem pw2 (m:Nat):aw 2 (m:Int)= [bT ((m/256%256:Nat):Int),bT ((m%256:Nat):Int)]:=by
 show bV ((dr m 2).map λz:Nat=>(z:Int))=_
 have:dr m 2= [m/2^8%256,m/2^0%256]:=rfl
 rw [this]
 simp only [map_cons,map_nil,bV]
 rw [show m/2^0%256=m%256 by omega,show m/2^8%256=m/256%256 by omega]
theorem pw4 (m:Nat):aw 4 (m:Int)= [bT ((m/16777216%256:Nat):Int),bT ((m/65536%256:Nat):Int),bT ((m/256%256:Nat):Int),bT ((m%256:Nat):Int)]:=by
 show bV ((dr m 4).map λz:Nat=>(z:Int))=_
 have:dr m 4= [m/2^24%256,m/2^16%256,m/2^8%256,m/2^0%256]:=rfl
 rw [this]
 simp only [map_cons,map_nil,bV]
 rw [show m/2^0%256=m%256 by omega,show m/2^8%256=m/256%256 by omega,show m/2^16%256=m/65536%256 by omega,show m/2^24%256=m/16777216%256 by omega]
theorem be1 {n:Int}(h:0≤n∧n<256):fw (aw 1 n)=n:=by
 rw [Fl h]
 show 0*256+fZ (bT n)=n
 rw [lh];omega
theorem be2 {n:Int}(h:0≤n∧n<65536):fw (aw 2 n)=n:=by
 obtain ⟨m,rfl⟩:=eq_ofNat_of_zero_le h.1
 rw [pw2]
 simp only [fw,foldl_cons,foldl_nil,lh]
 omega
theorem YG {n:Int}(h:0≤n∧n<4294967296):fw (aw 4 n)=n:=by
 obtain ⟨m,rfl⟩:=eq_ofNat_of_zero_le h.1
 rw [pw4]
 simp only [fw,foldl_cons,foldl_nil,lh]
 omega
theorem tg {n:Int}(h:0≤n∧n<256)(r:Bs):aR 1 (aw 1 n++r) 0=n∧aG 1 (aw 1 n++r) 0=r∧aH 1 (aw 1 n++r) 0=0:=by
 have h2:=Cw (x:=aw 1 n) (r:=r) (n:=1) rfl (by rw [bo];rfl)
 exact ⟨by rw [Fk (by rw [bo];rfl),be1 h],h2.2.1,h2.2.2⟩
theorem Mx {n:Int}(h:0≤n∧n<65536)(r:Bs):aR 2 (aw 2 n++r) 0=n∧aG 2 (aw 2 n++r) 0=r∧aH 2 (aw 2 n++r) 0=0:=by
 have h2:=Cw (x:=aw 2 n) (r:=r) (n:=2) rfl (by rw [bo];rfl)
 exact ⟨by rw [Fk (by rw [bo];rfl),be2 h],h2.2.1,h2.2.2⟩
theorem rd4 {n:Int}(h:0≤n∧n<4294967296)(r:Bs):aR 4 (aw 4 n++r) 0=n∧aG 4 (aw 4 n++r) 0=r∧aH 4 (aw 4 n++r) 0=0:=by
 have h2:=Cw (x:=aw 4 n) (r:=r) (n:=4) rfl (by rw [bo];rfl)
 exact ⟨by rw [Fk (by rw [bo];rfl),YG h],h2.2.1,h2.2.2⟩
theorem YH {a n:Int}(ha:0≤a∧a<4294967296)(hn:md n)(h:jc a n=a):a.toNat%2^(32-n).toNat=0:=by
 obtain ⟨m,rfl⟩:=eq_ofNat_of_zero_le ha.1
 obtain ⟨h0,h1⟩:=hn
 have hk:(32-n).toNat≤32:=by omega
 unfold jc Gd at h
 generalize (32-n).toNat=k at hk h ⊢
 have hy:(ofInt (IntKind.bits .u32) (4294967296-2^k)).toNat%2^k=0:=by
  have hpos:(2:Nat)^k≤2^32:=Nat.pow_le_pow_right (by decide) hk
  have hd:(2:Nat)^k∣2^32:=Nat.pow_dvd_pow 2 hk
  have e:(4294967296-2^k:Int)=((2^32-2^k:Nat):Int):=by rw [Int.ofNat_sub hpos];simp
  rw [e,BitVec.ofInt_natCast,BitVec.toNat_ofNat]
  have h1:2^k∣(2^32-2^k:Nat):=Nat.dvd_sub hd (Nat.dvd_refl _)
  exact Nat.mod_eq_zero_of_dvd ((Nat.dvd_mod_iff hd).2 h1)
 have hv:(m:Int)=((toNat (ofInt (IntKind.bits .u32) (m:Int)&&&ofInt (IntKind.bits .u32) (4294967296-2^k)):Nat):Int):=by
  have hlt:=(ofInt (IntKind.bits .u32) (m:Int)&&&ofInt (IntKind.bits .u32) (4294967296-2^k)).isLt
  rw [←Ha (n:=((toNat (ofInt (IntKind.bits .u32) (m:Int)&&&ofInt (IntKind.bits .u32) (4294967296-2^k)):Nat):Int)) (by omega) (by have:(2:Nat)^(IntKind.bits .u32)=4294967296:=rfl;omega)]
  exact h.symm
 have hm:m=toNat (ofInt (IntKind.bits .u32) (m:Int)&&&ofInt (IntKind.bits .u32) (4294967296-2^k)):=by omega
 rw [toNat_natCast]
 rw [hm,BitVec.toNat_and,Nat.and_mod_two_pow,hy,Nat.and_zero]
theorem YI {a n:Int}(ha:0≤a∧a<4294967296)(hn:md n)(h:jc a n=a):yE ((aw 4 a).take (nZ n))=a:=by
 have hm:=YH ha hn h
 obtain ⟨m,rfl⟩:=eq_ofNat_of_zero_le ha.1
 obtain ⟨h0,h1⟩:=hn
 rw [toNat_natCast] at hm
 have key:∀j,(32-n).toNat≥32-8*j→m%2^(32-8*j)=0:=λj hj=>Nat.mod_eq_zero_of_dvd (Nat.dvd_trans (Nat.pow_dvd_pow 2 hj) (Nat.dvd_of_mod_eq_zero hm))
 have hb:m<4294967296:=by omega
 rw [pw4]
 unfold nZ yE
 have hy:((n+7)/8).toNat=0∨((n+7)/8).toNat=1∨((n+7)/8).toNat=2∨((n+7)/8).toNat=3∨((n+7)/8).toNat=4:=by omega
 rcases hy with e | e | e | e | e<;>rw [e]
 ·have:=key 0 (by omega)
  simp only [take_zero,length_nil,nil_append,List.replicate,fw,foldl_cons,foldl_nil,lh,Nat.sub_zero]
  omega
 ·have:=key 1 (by omega)
  simp only [take_succ_cons,take_zero,length_cons,length_nil,cons_append,nil_append,List.replicate,fw,foldl_cons,foldl_nil,lh,reduceSub,reduceAdd]
  omega
 ·have:=key 2 (by omega)
  simp only [take_succ_cons,take_zero,length_cons,length_nil,cons_append,nil_append,List.replicate,fw,foldl_cons,foldl_nil,lh,reduceSub,reduceAdd]
  omega
 ·have:=key 3 (by omega)
  simp only [take_succ_cons,take_zero,length_cons,length_nil,cons_append,nil_append,List.replicate,fw,foldl_cons,foldl_nil,lh,reduceSub,reduceAdd]
  omega
 ·simp only [take_succ_cons,take_zero,length_cons,length_nil,cons_append,nil_append,List.replicate,fw,foldl_cons,foldl_nil,lh,reduceSub,reduceAdd]
  omega
theorem YJ {a n:Int}(h:xD a n)(r:Bs):bO (ir a n++r) 0=true∧dP (ir a n++r) 0=r∧cV (ir a n++r) 0=a∧cW (ir a n++r) 0=n:=by
 obtain ⟨ha,hm,hc⟩:=h
 have hn:0≤n∧n<256:=⟨hm.1,by have:=hm.2;omega⟩
 have e:ir a n++r=aw 1 n++((aw 4 a).take (nZ n)++r):=by rw [Fl hn];rfl
 obtain ⟨r1,r2,r3⟩:=tg hn ((aw 4 a).take (nZ n)++r)
 have ho:gI n=(((aw 4 a).take (nZ n)).length:Int):=by
  unfold gI nZ
  rw [length_take,bo,Int.tdiv_eq_ediv_of_nonneg (by omega)]
  have:=hm.1;have:=hm.2
  omega
 obtain ⟨t1,t2,t3⟩:=Cw (x:=(aw 4 a).take (nZ n)) (r:=r) rfl ho
 have g:dj (ir a n++r) 0=true:=by
  unfold dj;rw [e,r3,r1,decide_eq_true (rfl:(0:Int)=0),decide_eq_true hm.2];rfl
 have ok:bO (ir a n++r) 0=true:=by
  unfold bO rx;rw [g,e,r1,r2,r3,t3];rfl
 refine ⟨ok,?_,?_,?_⟩
 ·unfold dP;rw [g,e,r1,r2,r3,t2];rfl
 ·unfold cV pm;rw [ok,e,r1,r2,r3,t1,YI ha hm hc];exact hc
 ·unfold cW;rw [ok,e,r1];rfl
theorem My:∀(l:List (Int × Int)) (acc:List (Int × Int)) (k:Nat),(∀p∈l,xD p.1 p.2)→(bJ l).length<k→i8 k (bJ l) acc=some (acc++l)
 |[],acc,0,_,h=>absurd h (not_lt_zero _)
 |[],acc,k+1,_,_=>by
  unfold i8
  rw [append_nil];rfl
 |p::l,acc,0,_,h=>absurd h (not_lt_zero _)
 |p::l,acc,k+1,h,hk=>by
  have hp:=YJ (h p mem_cons_self) (bJ l)
  have e:bJ (p::l)=ir p.1 p.2++bJ l:=rfl
  have hl:(ir p.1 p.2).length≥1:=by unfold ir;simp
  rw [e,length_append] at hk
  unfold i8
  rw [e,decide_eq_true (show bw (ir p.1 p.2++bJ l) 0>0 by rw [yF,length_append];omega),hp.1,hp.2.1,hp.2.2.1,hp.2.2.2]
  simp only [cond_true]
  rw [My l _ k (λq hq=>h q (mem_cons_of_mem _ hq)) (by omega),append_assoc]
  rfl
theorem T4 {l:List (Int × Int)}(h:oz l):wA (bJ l)=some l:=by
 unfold wA
 rw [My l [] _ h.1 (Nat.lt_succ_self _)];rfl
theorem Jr {z:Int}(h:0≤z∧z<256):bz z 0=z:=by
 unfold bz
 simp [wrap,IntKind.bits,signed]
 omega
def Hn (r:pI):Prop:=((0≤r.1∧r.1<256)∧lO r.1=false)∧(0≤r.2.1∧r.2.1<256)∧r.2.2.length≤255
theorem Mz {r:pI}(h:Hn r):dn r.1 r.2.1 r.2.2=aw 1 r.1++(aw 1 r.2.1++(aw 1 r.2.2.length++r.2.2)):=by
 obtain ⟨⟨h1,h2⟩,h3,h4⟩:=h
 have hl:(0:Int)≤r.2.2.length∧(r.2.2.length:Int)<256:=⟨by omega,by omega⟩
 have hm:fA r.1 r.2.2=r.2.2.length:=by unfold fA;rw [h2,cond_false,if_neg (by omega)]
 unfold dn Bn
 rw [hm,h2,cond_false,Jr h1,Jr h3,Jr hl,Fl h1,Fl h3,Fl hl,toNat_natCast,take_length]
 rfl
theorem T5 {r:pI}(h:Hn r)(b:Bs):gM (dn r.1 r.2.1 r.2.2++b)=r.1∧j3 (dn r.1 r.2.1 r.2.2++b)=r.2.1∧iK (dn r.1 r.2.1 r.2.2++b)=r.2.2∧lb (dn r.1 r.2.1 r.2.2++b)=b∧ut (dn r.1 r.2.1 r.2.2++b)=0:=by
 have e:dn r.1 r.2.1 r.2.2++b=aw 1 r.1++(aw 1 r.2.1++(aw 1 r.2.2.length++(r.2.2++b))):=by rw [Mz h];simp only [append_assoc]
 obtain ⟨⟨h1,h2⟩,h3,h4⟩:=h
 have hl:(0:Int)≤r.2.2.length∧(r.2.2.length:Int)<256:=⟨by omega,by omega⟩
 obtain ⟨a1,a2,a3⟩:=tg h1 (aw 1 r.2.1++(aw 1 r.2.2.length++(r.2.2++b)))
 obtain ⟨b1,b2,b3⟩:=tg h3 (aw 1 r.2.2.length++(r.2.2++b))
 obtain ⟨c1,c2,c3⟩:=tg hl (r.2.2++b)
 obtain ⟨d1,d2,d3⟩:=pO r.2.2 b
 have eC:gM (dn r.1 r.2.1 r.2.2++b)=r.1:=by unfold gM;rw [e,a1]
 have eK:ta (dn r.1 r.2.1 r.2.2++b)=1:=by unfold ta;rw [eC,h2];rfl
 have e2:qL (dn r.1 r.2.1 r.2.2++b)=aw 1 r.2.2.length++(r.2.2++b):=by unfold qL;rw [e,a2,a3,b2]
 have e3:ur (dn r.1 r.2.1 r.2.2++b)=0:=by unfold ur;rw [e,a2,a3,b3]
 have eN:yK (dn r.1 r.2.1 r.2.2++b)=r.2.2.length:=by unfold yK;rw [eK,e2,e3,c1]
 have e4:sF (dn r.1 r.2.1 r.2.2++b)=r.2.2++b:=by unfold sF;rw [eK,e2,e3];exact c2
 have e5:xj (dn r.1 r.2.1 r.2.2++b)=0:=by unfold xj;rw [eK,e2,e3];exact c3
 refine ⟨eC,?_,?_,?_,?_⟩
 ·unfold j3;rw [e,a2,a3,b1]
 ·unfold iK;rw [eN,e4,e5,d1]
 ·unfold lb;rw [eN,e4,e5,d2]
 ·unfold ut;rw [eN,e4,e5,d3]
theorem MA:∀(l:List pI) (acc:List il) (k:Nat),(∀r∈l,Hn r)→(eA l).length<k→gf k (eA l) acc=some (acc++l)
 |[],acc,0,_,h=>absurd h (not_lt_zero _)
 |[],acc,k+1,_,_=>by
  unfold gf
  rw [append_nil];rfl
 |r::l,acc,0,_,h=>absurd h (not_lt_zero _)
 |r::l,acc,k+1,h,hk=>by
  have hr:=h r mem_cons_self
  obtain ⟨h1,h2,h3,h4,h5⟩:=T5 hr (eA l)
  have e:eA (r::l)=dn r.1 r.2.1 r.2.2++eA l:=rfl
  have hl:1≤(dn r.1 r.2.1 r.2.2).length:=by rw [Mz hr,length_append,bo];exact Nat.le_add_right _ _
  rw [e,length_append] at hk
  unfold gf
  rw [e,h1,h2,h3,h4,h5,decide_eq_true (show bw (dn r.1 r.2.1 r.2.2++eA l) 0>0 by rw [yF,length_append];omega),decide_eq_true (rfl:(0:Int)=0)]
  simp only [cond_true]
  rw [MA l _ k (λq hq=>h q (mem_cons_of_mem _ hq)) (by omega),append_assoc]
  rfl
theorem T6 {l:List pI}(h:∀r∈l,Hn r):tb (eA l)=some l:=by
 unfold tb
 rw [MA l [] _ h (Nat.lt_succ_self _)];rfl
theorem T7 {z:Int}(h:fc z=true):1≤z∧z≤65535:=by
 unfold fc at h
 simp only [and_eq_true,decide_eq_true_eq] at h
 exact h
theorem Ho:∀(p:List Int) (l:List Int) (r:Bs),(∀z∈p,fc z=true)→l.length+p.length≤16→jE p.length (fW p++r) l=some (r,l++p)
 |[],l,r,_,_=>by rw [append_nil];rfl
 |z::p,l,r,h,hl=>by
  have hz:=T7 (h z mem_cons_self)
  have e:fW (z::p)++r=aw 2 z++(fW p++r):=by show (aw 2 z++fW p)++r=_;rw [append_assoc]
  obtain ⟨a1,a2,a3⟩:=Mx (n:=z) ⟨by omega,by omega⟩ (fW p++r)
  simp only [length_cons] at hl
  show jE (p.length+1) _ _=_
  unfold jE
  rw [e,a1,a2,a3,decide_eq_true (rfl:(0:Int)=0),decide_eq_false (show ¬z=0 by omega),decide_eq_false (show ¬l.length=16 by omega)]
  simp only [Bool.not_false,Bool.and_self,cond_true]
  rw [Ho p (l++ [z]) r (λy hy=>h y (mem_cons_of_mem _ hy)) (by rw [length_append];simp;omega),append_assoc]
  rfl
theorem T8 {p:List Int}(hl:p.length≤16)(h:p.all fc=true):nr (fB (iV p))=some p:=by
 cases p with
 |nil=>rfl
 |cons z p=>
  have e:fB (iV (z::p))=aw 1 2++(aw 1 ((z::p).length:Int)++(fW (z::p)++ [])):=by
   unfold fB
   rw [kz,dH,append_nil]
   show aw 1 2++aw 1 ((z::p).length:Int)++fW (z::p)=_
   rw [append_assoc]
  have hn:(0:Int)≤((z::p).length:Nat)∧(((z::p).length:Nat):Int)<256:=⟨by omega,by omega⟩
  obtain ⟨a1,a2,a3⟩:=tg (n:=2) ⟨by decide,by decide⟩ (aw 1 ((z::p).length:Int)++(fW (z::p)++ []))
  obtain ⟨b1,b2,b3⟩:=tg hn (fW (z::p)++ [])
  have eN:df (fB (iV (z::p)))=((z::p).length:Nat):=by unfold df;rw [e,a2,a3,b1]
  have eB:kw (fB (iV (z::p)))=fW (z::p)++ []:=by unfold kw;rw [e,a2,a3,b2]
  have eH:mf (fB (iV (z::p)))=true:=by
   unfold mf wD
   rw [eN,e,a1,decide_eq_false (show ¬(((z::p).length:Nat):Int)=0 by simp only [length_cons];omega)]
   rfl
  have hlen:2≤(fB (iV (z::p))).length:=by rw [e,length_append,length_append,bo,bo];simp;omega
  unfold nr iB
  rw [decide_eq_true (show bw (fB (iV (z::p))) 0>0 by rw [yF];omega),eH,eN,eB,toNat_natCast]
  simp only [cond_true]
  rw [Ho (z::p) [] [] (all_eq_true.1 h) (by simpa using hl)]
  simp only [nil_append]
  obtain ⟨q,hq⟩:∃q,(fB (iV (z::p))).length=q+1:=⟨(fB (iV (z::p))).length-1,by omega⟩
  rw [hq]
  rfl
theorem aae {a:AtV}(h:Qw a):∀r∈fN a,Hn r:=by
 have b1:∀(fl t k n:Int),(0≤fl∧fl<256)→lO fl=false→(0≤t∧t<256)→k.toNat≤255→Hn (fl,t,aw k n):=λfl t k n h1 h2 h3 h4=>⟨⟨h1,h2⟩,h3,by show (aw k n).length≤255;rw [bo];exact h4⟩
 intro r hr
 unfold fN at hr
 rcases mem_append.1 hr with hr | hr
 ·simp only [mem_cons,List.not_mem_nil,or_false] at hr
  rcases hr with rfl | rfl | rfl
  ·exact b1 _ _ _ _ (by decide) (by decide) (by decide) (by decide)
  ·exact ⟨⟨by show (0:Int)≤64∧(64:Int)<256;decide,by show lO 64=false;decide⟩,by show (0:Int)≤2∧(2:Int)<256;decide,by have:=(ET h.p.1).2;show (fB (iV a.p)).length≤255;omega⟩
  ·exact b1 _ _ _ _ (by decide) (by decide) (by decide) (by decide)
 ·cases hm:a.hm<;>rw [hm] at hr
  ·cases hr
  ·obtain rfl:=mem_singleton.1 hr
   exact b1 _ _ _ _ (by decide) (by decide) (by decide) (by decide)
theorem Js {k:Int}{n:Int}:de k (aw k n)=fw (aw k n):=by
 unfold de
 rw [take_of_length_le (by rw [bo];exact le_refl _)]
def Cx (a:AtV):AtS:=⟨a.o,a.h,a.m,a.hm,.vec 1 (iV a.p) .none⟩
theorem T9 {a:AtV}(h:Qw a)(hh:0≤a.h∧a.h<4294967296):hU (eA (fN a))=.inr (Cx a):=by
 have hs:tb (eA (fN a))=some (fN a):=T6 (aae h)
 have hp:=T8 h.p.1 h.p.2
 have ho:de 1 (aw 1 a.o)=a.o:=by rw [Js,be1 ⟨h.o.1,by have:=h.o.2;omega⟩]
 have hg:de 4 (aw 4 a.h)=a.h:=by rw [Js,YG hh]
 have hA:Bl (fB (iV a.p))=a.p:=by unfold Bl;rw [hp];rfl
 have hO:uu (fB (iV a.p))=true:=by unfold uu;rw [hp];rfl
 have hL:pt (fB (iV a.p))=iV a.p:=by unfold pt;rw [hA]
 have t1:cU 64 1 (aw 1 a.o)=0:=by
  unfold cU
  rw [if_pos rfl,if_neg (show ¬¬je 64=64 by decide),if_neg (show ¬¬((aw 1 a.o).length:Int)=1 by rw [bo];decide),ho,if_neg (by have:=h.o.2;omega)]
 have t2:cU 64 2 (fB (iV a.p))=0:=by
  unfold cU
  rw [if_neg (by decide),if_pos rfl,if_neg (show ¬¬je 64=64 by decide),hO];rfl
 have t3:cU 64 3 (aw 4 a.h)=0:=by
  unfold cU
  rw [if_neg (by decide),if_neg (by decide),if_pos rfl,if_neg (show ¬¬je 64=64 by decide),if_neg (show ¬¬((aw 4 a.h).length:Int)=4 by rw [bo];decide),hg,h.h];rfl
 have t4:cU 128 4 (aw 4 a.m)=0:=by
  unfold cU
  rw [if_neg (by decide),if_neg (by decide),if_neg (by decide),if_pos rfl,if_neg (show ¬¬je 128=128 by decide),if_neg (show ¬¬((aw 4 a.m).length:Int)=4 by rw [bo];decide)]
 have p1:∀x:AtS,x.put 1 (aw 1 a.o)={x with o:=a.o}:=λx=>by unfold AtS.put;rw [if_pos rfl,ho]
 have p2:∀x:AtS,x.put 2 (fB (iV a.p))={x with x:=.vec 1 (iV a.p) .none}:=λx=>by unfold AtS.put;rw [if_neg (by decide),if_pos rfl,hL]
 have p3:∀x:AtS,x.put 3 (aw 4 a.h)={x with h:=a.h}:=λx=>by unfold AtS.put;rw [if_neg (by decide),if_neg (by decide),if_pos rfl,hg]
 have hO2:jD (eA (fN a))=true:=by unfold jD;rw [hs];rfl
 have hA2:hJ (eA (fN a))=fN a:=by unfold hJ;rw [hs];rfl
 unfold hU
 rw [hO2,hA2,cond_true]
 unfold fN
 cases hm:a.hm
 ·simp only [cond_false,append_nil]
  unfold dX
  rw [t1,if_pos rfl,p1]
  simp only [cond_false]
  unfold dX
  rw [show jF (λ_=>false) (Int.toNat 1) (Int.toNat 2)=false from rfl,t2,if_pos rfl,p2]
  simp only [cond_false]
  unfold dX
  rw [show jF (jF (λ_=>false) (Int.toNat 1)) (Int.toNat 2) (Int.toNat 3)=false from rfl,t3,if_pos rfl,p3]
  simp only [cond_false]
  unfold dX
  show lQ _ _=_
  unfold lQ Cx uy
  rw [hm,h.m0 hm]
  rfl
 ·have hmm:=h.m hm
  have hq:de 4 (aw 4 a.m)=a.m:=by rw [Js,YG ⟨hmm.1,by omega⟩]
  have p4:∀x:AtS,x.put 4 (aw 4 a.m)={x with m:=a.m,hm:=true}:=λx=>by unfold AtS.put;rw [if_neg (by decide),if_neg (by decide),if_neg (by decide),if_pos rfl,hq]
  simp only [cond_true,cons_append,nil_append]
  unfold dX
  rw [t1,if_pos rfl,p1]
  simp only [cond_false]
  unfold dX
  rw [show jF (λ_=>false) (Int.toNat 1) (Int.toNat 2)=false from rfl,t2,if_pos rfl,p2]
  simp only [cond_false]
  unfold dX
  rw [show jF (jF (λ_=>false) (Int.toNat 1)) (Int.toNat 2) (Int.toNat 3)=false from rfl,t3,if_pos rfl,p3]
  simp only [cond_false]
  unfold dX
  rw [show jF (jF (jF (λ_=>false) (Int.toNat 1)) (Int.toNat 2)) (Int.toNat 3) (Int.toNat 4)=false from rfl,t4,if_pos rfl,p4]
  simp only [cond_false]
  unfold dX
  show lQ _ _=_
  unfold lQ Cx
  rw [hm]
  rfl
def UpV.toS (u:UpV):UpS:=⟨bm u.w,u.a.o,iV u.a.p,u.a.h,u.a.m,u.a.hm,bm u.n⟩
theorem Fm {l:List (Int × Int)}(h:oz l):gK (bJ l)=true∧bg (bJ l)=bm l:=by
 unfold gK bg
 rw [T4 h];exact ⟨rfl,rfl⟩
theorem Pk {u:UpV}(hw:(bJ u.w).length<65536)(ha:(eD u).length<65536):im (eZ u)=bJ u.w∧cI (eZ u)=eD u∧eX (eZ u)=bJ u.n∧K0 (eZ u)=0:=by
 have e:eZ u=aw 2 (bJ u.w).length++(bJ u.w++(aw 2 (eD u).length++(eD u++bJ u.n))):=by unfold eZ;simp only [append_assoc]
 obtain ⟨a1,a2,a3⟩:=Mx (n:=((bJ u.w).length:Int)) ⟨by omega,by omega⟩ (bJ u.w++(aw 2 (eD u).length++(eD u++bJ u.n)))
 obtain ⟨b1,b2,b3⟩:=pO (bJ u.w) (aw 2 (eD u).length++(eD u++bJ u.n))
 obtain ⟨c1,c2,c3⟩:=Mx (n:=((eD u).length:Int)) ⟨by omega,by omega⟩ (eD u++bJ u.n)
 obtain ⟨d1,d2,d3⟩:=pO (eD u) (bJ u.n)
 obtain ⟨f1,f2,f3⟩:=pO (bJ u.n) []
 rw [append_nil] at f1 f3
 have a2':aG ((2:Nat):Int) (eZ u) 0=bJ u.w++(aw 2 (eD u).length++(eD u++bJ u.n)):=by rw [e];exact a2
 have a3':aH ((2:Nat):Int) (eZ u) 0=0:=by rw [e];exact a3
 have eR2:nN (eZ u)=aw 2 (eD u).length++(eD u++bJ u.n):=by unfold nN;rw [a2',a3',e,a1,b2]
 have eE2:pu (eZ u)=0:=by unfold pu;rw [a2',a3',e,a1,b3]
 have c2':aG ((2:Nat):Int) (aw 2 (eD u).length++(eD u++bJ u.n)) 0=eD u++bJ u.n:=c2
 have c3':aH ((2:Nat):Int) (aw 2 (eD u).length++(eD u++bJ u.n)) 0=0:=c3
 have eR4:Aq (eZ u)=bJ u.n:=by unfold Aq;rw [eR2,eE2,c2',c3',c1,d2]
 have eE4:Ar (eZ u)=0:=by unfold Ar;rw [eR2,eE2,c2',c3',c1,d3]
 refine ⟨?_,?_,?_,?_⟩
 ·unfold im;rw [a2',a3',e,a1,b1]
 ·unfold cI;rw [eR2,eE2,c2',c3',c1,d1]
 ·unfold eX;rw [eR4,eE4,yF,f1]
 ·unfold K0;rw [eR4,eE4,yF,f3]
theorem Ua {u:UpV}(hu:jI u)(hg:j4 u=true)(hl:(eZ u).length≤4077):iL (eZ u)=.inr u.toS:=by
 obtain ⟨hw,hn⟩:=E6 hu hg
 have hlen:(eZ u).length=2+(bJ u.w).length+(2+(eD u).length+(bJ u.n).length):=by
  unfold eZ
  have p2:∀z:Int,(aw 2 z).length=2:=λz=>bo z
  simp only [length_append,p2]
 obtain ⟨e1,e2,e3,e4⟩:=Pk (u:=u) (by omega) (by omega)
 obtain ⟨w1,w2⟩:=Fm hw
 obtain ⟨n1,n2⟩:=Fm hn
 have nl:(bm u.n).length=u.n.length:=dv _
 unfold iL
 rw [e1,e2,e3,e4,w1,w2,n1,n2,if_neg (by decide)]
 simp only [cond_true]
 unfold j4 at hg
 simp only [and_eq_true] at hg
 obtain ⟨_,hg⟩:=hg
 cases c:decide ((u.n.length:Int)>0)<;>rw [c] at hg
 ·have hn0:u.n.length=0:=by have:=of_decide_eq_false c;omega
  have hA:eD u= []:=by unfold eD;rw [c];rfl
  have ha:u.a=BC:=by simpa using hg
  have hnn:u.n= []:=List.eq_nil_of_length_eq_zero hn0
  rw [if_pos ⟨by rw [hA];rfl,by rw [nl,hn0]⟩]
  unfold UpV.toS
  rw [ha,hnn]
  rfl
 ·have hn0:0<u.n.length:=by have:=of_decide_eq_true c;omega
  have hA:eD u=eA (fN u.a):=by
   unfold eD pJ;rw [c]
   simp only [cond_true] at hg ⊢
   rw [hg];rfl
  have hG:=zr (show ji u.a=true from hg)
  have hq:=T9 hG ⟨hu.2.2.2.1,hu.2.2.2.2⟩
  have k1:hZ (eD u)=true:=by unfold hZ;rw [hA,hq]
  have k2:lR (eD u)=Cx u.a:=by unfold lR;rw [hA,hq];rfl
  rw [if_neg (by rw [nl];omega),k1,cond_true,if_pos (by rw [nl];exact hn0)]
  unfold nJ nK nL nM i9
  rw [k2]
  rfl
def Fo (l:dN):List (Int × Bs):=l.map λc=>(c.1,bV c.2)
theorem MB (l:dN):(Fo l).map bU=bM l:=by unfold Fo bM;rw [map_map];rfl
theorem Ub {c:Int}{v:Bs}(h:qS c v)(r:Bs):k9 (j5 c v++r) 0=c∧ei (j5 c v++r) 0=v∧gL (j5 c v++r) 0=r∧jY (j5 c v++r) 0=0:=by
 obtain ⟨h1,h2,h3⟩:=h
 have e:j5 c v++r=aw 1 c++(aw 1 v.length++(v++r)):=by unfold j5;simp only [append_assoc]
 obtain ⟨a1,a2,a3⟩:=tg (n:=c) ⟨h1.1,by have:=h1.2;omega⟩ (aw 1 v.length++(v++r))
 obtain ⟨b1,b2,b3⟩:=tg (n:=(v.length:Int)) ⟨by omega,by omega⟩ (v++r)
 obtain ⟨d1,d2,d3⟩:=pO v r
 have eN:Bc (j5 c v++r) 0=v.length:=by unfold Bc;rw [e,a2,a3,b1]
 refine ⟨?_,?_,?_,?_⟩
 ·unfold k9;rw [e,a1]
 ·unfold ei;rw [eN,e,a2,a3,b2,b3,d1]
 ·unfold gL;rw [eN,e,a2,a3,b2,b3,d2]
 ·unfold jY;rw [eN,e,a2,a3,b2,b3,d3]
theorem MC:∀(l:dN) (acc:List (Int × Bs)) (k:Nat),(∀c∈l,qS c.1 (bV c.2))→(cJ l).length<k→fT k (cJ l) 0 acc=([],0,acc++Fo l)
 |[],acc,0,_,h=>absurd h (not_lt_zero _)
 |[],acc,k+1,_,_=>by
  unfold fT
  rw [show Fo []= [] from rfl,append_nil];rfl
 |c::l,acc,0,_,h=>absurd h (not_lt_zero _)
 |c::l,acc,k+1,h,hk=>by
  have hc:=h c mem_cons_self
  obtain ⟨h1,h2,h3,h4⟩:=Ub hc (cJ l)
  have e:cJ (c::l)=j5 c.1 (bV c.2)++cJ l:=rfl
  have hl:=(u5 hc).2
  rw [e,length_append] at hk
  unfold fT
  rw [e,h1,h2,h3,h4,decide_eq_true (show bw (j5 c.1 (bV c.2)++cJ l) 0>0 by rw [yF,length_append];omega)]
  simp only [cond_true]
  rw [MC l _ k (λq hq=>h q (mem_cons_of_mem _ hq)) (by omega),append_assoc]
  rfl
theorem Uc {l:dN}(h:∀c∈l,qS c.1 (bV c.2)):Gg (cJ l) 0=([],0,Fo l):=by
 unfold Gg
 rw [MC l [] _ h (Nat.lt_succ_self _)];rfl
theorem Ud {l:dN}(h:∀c∈l,qS c.1 (bV c.2))(hn:cc l≤200):qm (aw 1 2++(aw 1 (cc l)++cJ l)) 0=.ok (Fo l):=by
 have hv:=kS l
 obtain ⟨a1,a2,a3⟩:=tg (n:=2) ⟨by decide,by decide⟩ (aw 1 (cc l)++cJ l)
 obtain ⟨b1,b2,b3⟩:=tg (n:=(cc l:Int)) ⟨by omega,by omega⟩ (cJ l)
 obtain ⟨d1,d2,d3⟩:=pO (cJ l) []
 rw [append_nil,hv] at d1 d2 d3
 generalize hb:aw 1 2++(aw 1 (cc l)++cJ l)=b at*
 have eN:Bc b 0=cc l:=by unfold Bc;rw [a2,a3,b1]
 have e1:k9 b 0=2:=a1
 have e2:ei b 0=cJ l:=by unfold ei;rw [eN,a2,a3,b2,b3,d1]
 have e3:gL b 0= []:=by unfold gL;rw [eN,a2,a3,b2,b3,d2]
 have e4:jY b 0=0:=by unfold jY;rw [eN,a2,a3,b2,b3,d3]
 have hl:2≤b.length:=by rw [←hb,length_append,length_append,bo,bo];simp;omega
 have hcp:=Uc h
 obtain ⟨q,hq⟩:∃q,b.length=q+1:=⟨b.length-1,by omega⟩
 unfold qm
 rw [hq]
 unfold ke
 rw [decide_eq_true (show bw b 0>0 by rw [yF];omega),e1,e2,e3,e4]
 unfold wB nT ug
 rw [hcp]
 rfl
def OpV.toS (o:OpV):OpS:=⟨o.n,o.h,o.i,bM o.l⟩
theorem Fp {o:OpV}(ho:qT o)(hg:j6 o=true):jC (dU o) 0=pp o.n o.h o.i (bM o.l)∧10≤(dU o).length:=by
 have G:=u6 hg
 obtain ⟨hd,hn⟩:=jX ho.1 G.l
 have hpl:=kS o.l
 obtain ⟨K,r,hb,hK,hp,hr⟩:∃(K:Int) (r:Bs),dU o=aw 1 4++(aw 2 o.n++(aw 2 o.h++(aw 4 o.i++(aw 1 K++r))))∧K=bw r 0∧qm r 0=.ok (Fo o.l)∧(0≤K∧K<256):=by
  unfold dU
  rw [hg,cond_true]
  cases c:decide (o.l.length=0)
  ·refine ⟨(cc o.l:Int)+2,aw 1 2++(aw 1 (cc o.l)++cJ o.l),?_,?_,Ud hd hn,by omega,by omega⟩
   ·simp only [cond_false,Mt,Hm,append_assoc]
   ·rw [yF,length_append,length_append,bo,bo,hpl]
    simp;omega
  ·have h0:o.l= []:=List.eq_nil_of_length_eq_zero (of_decide_eq_true c)
   refine ⟨0,[],?_,rfl,?_,by decide⟩
   ·simp only [cond_true,Hm,append_assoc,append_nil]
   ·rw [h0];rfl
 have hh:0≤o.h∧o.h<65536:=by rcases G.h with h | h<;>omega
 obtain ⟨a1,a2,a3⟩:=tg (n:=4) ⟨by decide,by decide⟩ (aw 2 o.n++(aw 2 o.h++(aw 4 o.i++(aw 1 K++r))))
 obtain ⟨b1,b2,b3⟩:=Mx (n:=o.n) ⟨by have:=G.n.1;omega,by have:=G.n.2;omega⟩ (aw 2 o.h++(aw 4 o.i++(aw 1 K++r)))
 obtain ⟨c1,c2,c3⟩:=Mx hh (aw 4 o.i++(aw 1 K++r))
 obtain ⟨d1,d2,d3⟩:=rd4 ho.2 (aw 1 K++r)
 obtain ⟨e1,e2,e3⟩:=tg hr r
 have hlen:10≤(dU o).length:=by
  rw [hb]
  simp only [length_append,bo]
  have:(1:Int).toNat=1:=rfl
  have:(2:Int).toNat=2:=rfl
  have:(4:Int).toNat=4:=rfl
  omega
 refine ⟨?_,hlen⟩
 unfold jC vL
 rw [if_neg (by omega),hb,a1,a2,a3,b1,b2,b3,c1,c2,c3,d1,d2,d3,e1,e2,e3,if_neg (by decide)]
 unfold fU
 rw [if_neg (by have:=G.n.1;omega),if_neg (by omega),if_neg (λh=>h (by rcases G.h with h | h;exact .inl h;exact .inr ⟨h.1,h.2⟩)),if_neg G.i,if_neg (λh=>h hK)]
 have k1:gq r 0=true:=by unfold gq;rw [hp]
 have k2:fV r 0=bM o.l:=by unfold fV;rw [hp];exact MB o.l
 rw [k1,k2];rfl
theorem Ue {o:OpV}(ho:qT o)(hg:j6 o=true):qo (dU o) 0=.inr o.toS:=by
 unfold qo
 rw [(Fp ho hg).1]
 rfl
theorem Uf {f:FtV}(hg:lf f=true):jB (fX f)=true∧yW (fX f)=f.c∧yX (fX f)=f.s∧yY (fX f)=bV f.d∧2≤(fX f).length:=by
 have e:fX f=bT f.c::bT f.s::bV f.d:=by unfold fX;rw [hg];rfl
 unfold lf at hg
 simp only [and_eq_true,decide_eq_true_eq] at hg
 obtain ⟨h1,h2,h3,h4,h5⟩:=hg
 rw [e]
 refine ⟨?_,rfl,rfl,rfl,by simp⟩
 unfold jB
 rw [decide_eq_true (show 2≤(bT f.c::bT f.s::bV f.d).length by simp),decide_eq_true (show ((bT f.c::bT f.s::bV f.d).drop 2).length≤4075 by show (bV f.d).length≤4075;rw [kB];exact h5)]
 show (true&&(true&& !decide (f.c=0)))=true
 rw [decide_eq_false (show ¬f.c=0 by omega)];rfl
def lk (n k:Int)(r:Bs):Bs:=fO++(aw 2 n++(aw 1 k++r))
theorem rN:fO.length=16:=by unfold fO;rw [kB];rfl
theorem zD (n k:Int)(r:Bs):(lk n k r).length=19+r.length:=by
 unfold lk
 simp only [length_append,bo,rN]
 have:(1:Int).toNat=1:=rfl
 have:(2:Int).toNat=2:=rfl
 omega
theorem BH (n k:Int)(r:Bs):(lk n k r).drop 16=aw 2 n++(aw 1 k++r):=by
 unfold lk
 rw [List.drop_append_of_le_length (by rw [rN];omega),List.drop_of_length_le (by rw [rN];omega)];rfl
theorem BI (n k:Int)(r:Bs):(lk n k r).drop 18=aw 1 k++r:=by
 have h:(lk n k r).drop 18=((lk n k r).drop 16).drop 2:=by rw [List.drop_drop]
 rw [h,BH,List.drop_append_of_le_length (by rw [bo];decide),List.drop_of_length_le (by rw [bo];decide)];rfl
theorem MD (n:Int){k:Int}(hk:0≤k∧k<256)(r:Bs):(lk n k r).drop 19=r:=by
 have h:(lk n k r).drop 19=((lk n k r).drop 18).drop 1:=by rw [List.drop_drop]
 rw [h,BI,Fl hk];rfl
theorem YK (n k:Int)(r:Bs):ia (lk n k r)=true:=by
 unfold ia lk
 rw [List.take_append_of_le_length (by rw [rN];omega),take_of_length_le (by rw [rN];omega)]
 decide
theorem Q9 {n k:Int}(hn:19≤n∧n≤4096)(hk:1≤k∧k≤4)(hl:sK k≤n)(h4:k=4→n=19)(r:Bs):lS (lk n k r)=.inr (n,k):=by
 have e1:io (lk n k r)=n:=by
  unfold io de
  rw [BH,List.take_append_of_le_length (by rw [bo];decide),take_of_length_le (by rw [bo];decide),be2 ⟨by omega,by omega⟩]
 have e2:nX (lk n k r)=k:=by
  unfold nX
  rw [BI,Fl ⟨by omega,by omega⟩];rfl
 unfold lS
 rw [if_neg (by rw [zD];omega),YK,e1,e2,cond_true,if_neg (by omega),if_neg (by omega),if_neg (by rintro (h | ⟨h,h2⟩);omega;exact h2 (h4 h))]
structure MvS (m:MsV) (n:Int) (v:Bs):Prop where
 b:cZ m=lk n m.k v
 nv:n=19+(v.length:Int)
 hn:19≤n∧n≤4096
 hk:1≤m.k∧m.k≤4
 hl:sK m.k≤n
 h4:m.k=4→n=19
theorem ME {m:MsV}(hm:gG m)(hg:fC m=true):MvS m (19+((cX m).length:Int)) (cX m)∧fh (cZ m) 0=.inr m.toS:=by
 have hb:cZ m=lk (19+((cX m).length:Int)) m.k (cX m):=by unfold cZ Mv lk;rw [hg,cond_true];simp only [append_assoc]
 have hle:=(zC hm).2
 have main:∀(hk:1≤m.k∧m.k≤4) (hl:sK m.k≤19+((cX m).length:Int)) (h4:m.k=4→(19+((cX m).length:Int))=19),
   (if m.k=1 then (bif ib (cX m) 0 then (.inr {m0 with k:=m.k,op:=qp (cX m) 0}:(Int × Int × Bs) ⊕ MsgS) else .inl (2,sL (cX m) 0,lU (cX m) 0))
    else if m.k=2 then (bif iC (cX m) then .inr {m0 with k:=m.k,u:=lV (cX m)} else .inl (3,sM (cX m),lW (cX m)))
    else if m.k=3 then (bif jB (cX m) then .inr {m0 with k:=m.k,c:=yW (cX m),s:=yX (cX m),d:=yY (cX m)} else .inl (1,2,nt (cZ m)))
    else .inr {m0 with k:=m.k})=.inr m.toS→MvS m (19+((cX m).length:Int)) (cX m)∧fh (cZ m) 0=.inr m.toS:=by
  intro hk hl h4 hmain
  refine ⟨⟨hb,rfl,⟨by omega,by omega⟩,hk,hl,h4⟩,?_⟩
  have hh:lS (cZ m)=.inr (19+((cX m).length:Int),m.k):=by rw [hb];exact Q9 ⟨by omega,by omega⟩ hk hl h4 _
  have g1:dg (cZ m)=true:=by unfold dg;rw [hh]
  have g2:bI (cZ m)=19+((cX m).length:Int):=by unfold bI;rw [hh]
  have g3:ew (cZ m)=m.k:=by unfold ew;rw [hh]
  have g4:(cZ m).drop 19=cX m:=by rw [hb];exact MD _ ⟨by omega,by omega⟩ _
  have g5:(cZ m).length=19+(cX m).length:=by rw [hb];exact zD _ _ _
  unfold fh
  rw [g1,g2,g3,g4,g5,cond_true,if_neg (by omega),if_neg (λh=>h (by omega))]
  exact hmain
 unfold fC at hg
 have hc:cX m=bif decide (m.k=1) then dU m.op else bif decide (m.k=2) then iu m.u else bif decide (m.k=3) then fX m.f else []:=rfl
 cases c1:decide (m.k=1)<;>rw [c1] at hg hc
 ·cases c2:decide (m.k=2)<;>rw [c2] at hg hc
  ·cases c3:decide (m.k=3)<;>rw [c3] at hg hc
   ·cases c4:decide (m.k=4)<;>rw [c4] at hg
    ·cases hg
    ·have k4:=of_decide_eq_true c4
     have em:m=nP:=of_decide_eq_true hg
     simp only [cond_false] at hc
     have hl0:(cX m).length=0:=by rw [hc];rfl
     refine main ⟨by omega,by omega⟩ ?_ (λ_=>by omega) ?_
     ·rw [k4,hl0];decide
     ·rw [if_neg (by omega),if_neg (by omega),if_neg (by omega),em];rfl
   ·have k3:=of_decide_eq_true c3
    simp only [cond_true,cond_false,and_eq_true,decide_eq_true_eq] at hg hc
    obtain ⟨hpos,em⟩:=hg
    have hgf:lf m.f=true:=by
     cases h:lf m.f
     ·have:fX m.f= []:=by unfold fX;rw [h];rfl
      rw [this] at hpos;simp at hpos
     ·rfl
    obtain ⟨n1,n2,n3,n4,n5⟩:=Uf hgf
    refine main ⟨by omega,by omega⟩ ?_ (λh=>by omega) ?_
    ·rw [k3,hc];show (21:Int)≤_;omega
    ·rw [if_neg (by omega),if_neg (by omega),if_pos k3,hc,n1,n2,n3,n4,cond_true]
     have e:m.toS={m0 with k:=m.k,c:=m.f.c,s:=m.f.s,d:=bV m.f.d}:=by rw [em];rfl
     rw [e]
  ·have k2:=of_decide_eq_true c2
   simp only [cond_true,cond_false,and_eq_true,decide_eq_true_eq] at hg hc
   obtain ⟨hpos,em⟩:=hg
   obtain ⟨hgu,hlu,hbu⟩:j4 m.u=true∧(eZ m.u).length≤4077∧iu m.u=eZ m.u:=by
    unfold iu at hpos ⊢
    cases h:j4 m.u<;>rw [h] at hpos
    ·simp at hpos
    ·cases h2:decide (((eZ m.u).length:Int)≤4077)<;>rw [h2] at hpos
     ·simp at hpos
     ·exact ⟨rfl,by have:=of_decide_eq_true h2;omega,rfl⟩
   have hub:=Ua hm.2.1 hgu hlu
   have h4:4≤(eZ m.u).length:=by
    unfold eZ
    simp only [length_append,bo]
    have:(2:Int).toNat=2:=rfl
    omega
   refine main ⟨by omega,by omega⟩ ?_ (λh=>by omega) ?_
   ·rw [k2,hc,hbu];show (23:Int)≤_;omega
   ·have o1:iC (cX m)=true:=by unfold iC;rw [hc,hbu,hub]
    have o2:lV (cX m)=m.u.toS:=by unfold lV;rw [hc,hbu,hub]
    rw [if_neg (by omega),if_pos k2,o1,o2,cond_true]
    have e:m.toS={m0 with k:=m.k,u:=m.u.toS}:=by rw [em];rfl
    rw [e]
 ·have k1:=of_decide_eq_true c1
  simp only [cond_true,and_eq_true,decide_eq_true_eq] at hg hc
  obtain ⟨hpos,em⟩:=hg
  have hgo:j6 m.op=true:=by
   cases h:j6 m.op
   ·have:dU m.op= []:=by unfold dU;rw [h];rfl
    rw [this] at hpos;simp at hpos
   ·rfl
  have hob:=Ue hm.1 hgo
  have hl:=(Fp hm.1 hgo).2
  refine main ⟨by omega,by omega⟩ ?_ (λh=>by omega) ?_
  ·rw [k1,hc];show (29:Int)≤_;omega
  ·have o1:ib (cX m) 0=true:=by unfold ib;rw [hc,hob]
   have o2:qp (cX m) 0=m.op.toS:=by unfold qp;rw [hc,hob]
   rw [if_pos k1,o1,o2,cond_true]
   have e:m.toS={m0 with k:=m.k,op:=m.op.toS}:=by rw [em];rfl
   rw [e]
theorem Ug {m:MsV}(hm:gG m)(hg:fC m=true)(r:Bs):bh (cZ m++r) 0=(m.toS::(bh r 0).1,(bh r 0).2):=by
 obtain ⟨hS,hp⟩:=ME hm hg
 have hb:cZ m++r=lk (19+((cX m).length:Int)) m.k (cX m++r):=by rw [hS.b];unfold lk;simp only [append_assoc]
 have hh:lS (cZ m++r)=.inr (19+((cX m).length:Int),m.k):=by rw [hb];exact Q9 hS.hn hS.hk hS.hl hS.h4 _
 have hl:(cZ m).length=19+(cX m).length:=by rw [hS.b];exact zD _ _ _
 have g1:dg (cZ m++r)=true:=by unfold dg;rw [hh]
 have g2:bI (cZ m++r)=19+((cX m).length:Int):=by unfold bI;rw [hh]
 have g3:(bI (cZ m++r)).toNat=(cZ m).length:=by rw [g2,hl];omega
 have g4:(cZ m++r).take (bI (cZ m++r)).toNat=cZ m:=by rw [g3,List.take_append_of_le_length (le_refl _),take_length]
 have g5:(cZ m++r).drop (bI (cZ m++r)).toNat=r:=by rw [g3,List.drop_append_of_le_length (le_refl _),List.drop_length,nil_append]
 have hs:=pE (w:=cZ m++r) (pas:=0) (M:=m.toS) (by rw [length_append,hl];omega) g1 (by rw [g2,length_append,hl];omega) (by rw [g4];exact hp)
 rw [g5] at hs
 exact hs
theorem Fq {r:Bs}(hr:r.length<19):∀(ms:List MsV),(∀m∈ms,gG m∧fC m=true)→bh ((ms.map cZ).flatten++r) 0=(ms.map MsV.toS,r,none)
 |[],_=>dS 0 hr
 |m::ms,h=>by
  obtain ⟨h1,h2⟩:=h m mem_cons_self
  have ih:=Fq hr ms λx hx=>h x (mem_cons_of_mem _ hx)
  rw [map_cons,flatten_cons,append_assoc,Ug h1 h2,ih]
  rfl
def eF:Bs:=bV (List.replicate 16 255++ [0,19,4])
abbrev Fr:=36
abbrev MF:=20
def YL (ro p:Nat)(o:VO)(n:Int):Prop:=∃(pas:Int) (w:Bs),ro≤p∧IsB w∧w.length<19∧o=ig pas w∧n=19-(w.length:Int)
def Hp:aW:=λ_ ys T K=>match ys with
 |[]=>K (.vec 1 eF .none) T
 |_=>aJ 84 default ys
def Ra (n:Int):aW:=λro ys T K=>match ys with
 |[.ptr p 0]=>match T.objs[p]? with
  |some o=>YL ro p o n∧K (.val (.int .i64 n)) T
  |none=>aJ 85 default ys
 |_=>aJ 84 default ys
def Rb (o2 o3:VO)(M:List TV):aW:=λro ys T K=>match ys with
 |[.ptr 0 0,.vec 1 b _]=>match T.objs with
  |[o]=>Az ro 0 o b o2 [] 0 0 []∧K (.tup [.vec 15 [] .none,.agg [.val (.int .i64 0),.val (.int .i64 0),.vec 1 [] .none]]) {T with objs:=T.objs.set 0 o2}
  |[o,_]=>Az ro 0 o b o3 [M] 0 0 []∧K (.tup [.vec 15 [M] .none,.agg [.val (.int .i64 0),.val (.int .i64 0),.vec 1 [] .none]]) {T with objs:=T.objs.set 0 o3}
  |_=>aJ 85 default ys
 |_=>aJ 84 default ys
theorem Uh (pas n:Int)(d:TV)(a:Bs)(Q:TV→VT→Prop):ar prog ae (aF [(26,λ_ _ _ _=>False)]) (aZ [(999998,.dead,none)]) 300 aN 0 MF [.ptr 0 0] (cu (.cells [.val (.bool true),.val (.int .i64 pas),.vec 1 a .none,.val (.int .i64 0),.val (.int .i64 0),d,.val (.int .i64 n)])) Q=
 (bif decide ((↑(length a):Int)<(19:Int))
 then Q (ah (wrap i64 ((19:Int)-(↑(length a):Int)))) ⟨[(.cells [aI,(ah pas),(av a),aB,aB,d,(ah n)])],[]⟩
 else False):=by kernel_rfl
theorem aaf (k1 k2:Bs)(M:List TV)(n:Int)(o0 o2 o3:VO)(Q:TV→VT→Prop):ar prog be (aF [(Er,GW o0),(Fr,Hp),(rC,Rb o2 o3 M),(MF,Ra n)]) (aZ [(999998,.dead,none),(11,.vec 1 k1 .none,none),(20,.vec 1 k2 .none,none)]) 300 aN 0 oy [] am Q=
 (OZ (o0) 0∧
 (bc prog (λkk=>(bif beq kk (0:Nat) then (.some gl) else .none)) (.slice 22 (.tmp 10) .none (.some (.const (.int .i64 9))) .none) [(10,(av eF))] (av k1)∧
 (Az 0 0 (o0) (k1) (o2) [] 0 0 []∧
 (YL 0 0 (o2) (n)∧
 (bc prog (λkk=>(bif beq kk (0:Nat) then (.some gl) else .none)) (.slice 22 (.tmp 19) (.some (.const (.int .i64 9))) .none .none) [(19,(av eF))] (av k2)∧
 (Az 0 0 (o2) (k2) (o3) [(M)] 0 0 []∧
 (bif ax eql (k6 n (10:Int))
 then Q aI (UC o3)
 else Q aj (UC o3)))))))):=by kernel_rfl
def YM (l:List TV)(v:Bs):Prop:=∃m:MsV,l=m.cells∧gG m∧v=cZ m
abbrev qC:=7
def MG (v:Bs):aW:=λ_ ys T K=>match ys with
 |[.agg l]=>YM l v∧K (.vec 1 v .none) T
 |_=>aJ 84 default ys
def BJ:List Nat:= [4,1,5,6,18,19,20]
def BK (r:Bool)(n:Int)(b W L:Bs)(j:Int):List TV:= [.val (.bool r),.val (.int .u8 n),.vec 1 b (.tail 0 b.length),.vec 15 W (.tail 1 W.length),.vec 15 L .none,.val (.int .i64 L.length),.val (.int .i64 j)]
def Rc (g h:Nat):VT:=⟨[],[(g,1,true),(h,15,true)]⟩
noncomputable def fbL (n:Int)(B W L:Bs)(c:Code):Nat→Option (bN × Code):=ct [(0,dE 75 BJ [(5,1),(6,15)] (BK false n [] [] L 0) (Rc 0 0) (λK=>K .normal (aQ 75 BJ (BK false n B W L L.length)) (Rc B.length W.length) []∧∀(b' W':Bs) (jj:Int) (oo:List VO),K .ret (aQ 75 BJ (BK true n b' W' L jj)) ⟨oo,[(b'.length,1,true),(W'.length,15,true)]⟩ []),c)]
abbrev Jt (m:MsgS)(b:Bs)(W:Bs):VT:=(UB (MsgS.k m) (OpS.n (MsgS.op m)) (OpS.h (MsgS.op m)) (OpS.i (MsgS.op m)) (OpS.l (MsgS.op m)) (UpS.w (MsgS.u m)) (UpS.o (MsgS.u m)) (UpS.x (MsgS.u m)) (UpS.h (MsgS.u m)) (UpS.m (MsgS.u m)) (UpS.hm (MsgS.u m)) (UpS.n (MsgS.u m)) (MsgS.c m) (MsgS.s m) (MsgS.d m) [((length b),(1,true)),((length W),(15,true))])
abbrev Re (m:MsgS)(b2:Bs)(W:Bs):VT:=(UB (MsgS.k m) (OpS.n (MsgS.op m)) (OpS.h (MsgS.op m)) (OpS.i (MsgS.op m)) (OpS.l (MsgS.op m)) (UpS.w (MsgS.u m)) (UpS.o (MsgS.u m)) (UpS.x (MsgS.u m)) (UpS.h (MsgS.u m)) (UpS.m (MsgS.u m)) (UpS.hm (MsgS.u m)) (UpS.n (MsgS.u m)) (MsgS.c m) (MsgS.s m) (MsgS.d m) [((length b2),(1,true)),((length W),(15,true))])
abbrev Rf (m:MsgS)(b2:Bs)(W2:Bs):VT:=(UB (MsgS.k m) (OpS.n (MsgS.op m)) (OpS.h (MsgS.op m)) (OpS.i (MsgS.op m)) (OpS.l (MsgS.op m)) (UpS.w (MsgS.u m)) (UpS.o (MsgS.u m)) (UpS.x (MsgS.u m)) (UpS.h (MsgS.u m)) (UpS.m (MsgS.u m)) (UpS.hm (MsgS.u m)) (UpS.n (MsgS.u m)) (MsgS.c m) (MsgS.s m) (MsgS.d m) [((length b2),(1,true)),((length W2),(15,true))])
abbrev Cy (L:Bs):TV:=(ah (↑(length L):Int))
theorem Fs (L b W v b2 W2:Bs)(m:MsgS)(n:Int)(j:Nat)(Q:Exit→List TV→VT→List Nat→Nat→Prop):vx prog be (aF [(Hh,MG v),(oy,oe)]) (aZ [(999999,.dead,none),(999998,.dead,none),(22,.elt m.cells,none),(38,.vec 1 b2 (.tail 0 b2.length),some λT=>{T with tails:=T.tails.set 0 (b2.length,1,true)}),(42,.vec 15 W2 (.tail 1 W2.length),some λT=>{T with tails:=T.tails.set 1 (W2.length,15,true)})]) 300 aN none 0 (cq prog qC 0) (aQ 75 BJ (BK false n b W L j)) (Rc b.length W.length) [] (cN BJ Q)=
 (bif decide ((↑j:Int)<(↑(length L):Int))
 then (bc prog (λkk=>(bif beq kk (0:Nat) then (.some gl) else .none)) (.indexAddr 25 (.tmp 18) (.tmp 20)) [(18,(dW L)),(20,(ah (↑j:Int)))] (NJ (MsgS.k m) (OpS.n (MsgS.op m)) (OpS.h (MsgS.op m)) (OpS.i (MsgS.op m)) (OpS.l (MsgS.op m)) (UpS.w (MsgS.u m)) (UpS.o (MsgS.u m)) (UpS.x (MsgS.u m)) (UpS.h (MsgS.u m)) (UpS.m (MsgS.u m)) (UpS.hm (MsgS.u m)) (UpS.n (MsgS.u m)) (MsgS.c m) (MsgS.s m) (MsgS.d m))∧
 (YM (pg (MsgS.k m) (OpS.n (MsgS.op m)) (OpS.h (MsgS.op m)) (OpS.i (MsgS.op m)) (OpS.l (MsgS.op m)) (UpS.w (MsgS.u m)) (UpS.o (MsgS.u m)) (UpS.x (MsgS.u m)) (UpS.h (MsgS.u m)) (UpS.m (MsgS.u m)) (UpS.hm (MsgS.u m)) (UpS.n (MsgS.u m)) (MsgS.c m) (MsgS.s m) (MsgS.d m)) (v)∧
 (bif decide (wrap i64 ((↑(length b):Int)+(↑(length v):Int))>(30000:Int))
 then Q .ret [aI,(bp n),(bS b (length b)),(.vec 15 W (.tail 1 (length W))),(dW L),(Cy L),(ah (↑j:Int))] (Jt m b W) [] 75
 else (bif decide ((↑(length v):Int)>(0:Int))
 then ((bb prog (λkk=>(bif beq kk (0:Nat) then (.some gl) else .none)) 0 (Jt m b W) (.call ⟨(.builtin .append),#[(.tmp 36),(.tmp 37)],#[22,22]⟩) [(36,(bS b (length b))),(37,(av v))] (bS b2 (length b2)) (Re m b2 W)∧
 (((@Eq (Option TV) (.some (.agg [(ah (MsgS.k m)),(ah (OpS.n (MsgS.op m))),(ah (OpS.h (MsgS.op m))),(cd (OpS.i (MsgS.op m))),(aY (OpS.l (MsgS.op m))),(aY (UpS.w (MsgS.u m))),(ah (UpS.o (MsgS.u m))),(av (UpS.x (MsgS.u m))),(cd (UpS.h (MsgS.u m))),(ah (UpS.m (MsgS.u m))),(cS (UpS.hm (MsgS.u m))),(aY (UpS.n (MsgS.u m))),(ah (MsgS.c m)),(ah (MsgS.s m)),(av (MsgS.d m))])) (.some (.agg [(ah (MsgS.k m)),(ah (OpS.n (MsgS.op m))),(ah (OpS.h (MsgS.op m))),(cd (OpS.i (MsgS.op m))),(aY (OpS.l (MsgS.op m))),(aY (UpS.w (MsgS.u m))),(ah (UpS.o (MsgS.u m))),(av (UpS.x (MsgS.u m))),(cd (UpS.h (MsgS.u m))),(ah (UpS.m (MsgS.u m))),(cS (UpS.hm (MsgS.u m))),(aY (UpS.n (MsgS.u m))),(ah (MsgS.c m)),(ah (MsgS.s m)),(av (MsgS.d m))])))∧
 True)∧
 ((bb prog (λkk=>(bif beq kk (0:Nat) then (.some gl) else .none)) 0 (Re m b2 W) (.call ⟨(.builtin .append),#[(.tmp 39),(.tmp 41)],#[25,25]⟩) [(39,(.vec 15 W (.tail 1 (length W)))),(41,(.vec 15 [[(.val (.int .i64 (MsgS.k m))),(.val (.int .i64 (OpS.n (MsgS.op m)))),(.val (.int .i64 (OpS.h (MsgS.op m)))),(.val (.int .u32 (OpS.i (MsgS.op m)))),(.vec 2 (OpS.l (MsgS.op m)) .none),(.vec 2 (UpS.w (MsgS.u m)) .none),(.val (.int .i64 (UpS.o (MsgS.u m)))),(.vec 1 (UpS.x (MsgS.u m)) .none),(.val (.int .u32 (UpS.h (MsgS.u m)))),(.val (.int .i64 (UpS.m (MsgS.u m)))),(.val (.bool (UpS.hm (MsgS.u m)))),(.vec 2 (UpS.n (MsgS.u m)) .none),(.val (.int .i64 (MsgS.c m))),(.val (.int .i64 (MsgS.s m))),(.vec 1 (MsgS.d m) .none)]] .full))] (.vec 15 W2 (.tail 1 (length W2))) (Rf m b2 W2)∧
 Q .normal [aj,(bp n),(bS b2 (length b2)),(.vec 15 W2 (.tail 1 (length W2))),(dW L),(Cy L),(ah (wrap i64 ((↑j:Int)+(1:Int))))] (Rf m b2 W2) [] 75)∧
 True)))∧
 True)
 else Q .normal [aj,(bp n),(bS b (length b)),(.vec 15 W (.tail 1 (length W))),(dW L),(Cy L),(ah (wrap i64 ((↑j:Int)+(1:Int))))] (Jt m b W) [] 75))))
 else Q (.exit 0) [aj,(bp n),(bS b (length b)),(.vec 15 W (.tail 1 (length W))),(dW L),(Cy L),(ah (↑j:Int))] ⟨[],[((length b),(1,true)),((length W),(15,true))]⟩ [] 75):=by kernel_rfl
theorem aag (B W L G kr:Bs)(n m:Int)(Q:TV→VT→Prop):ar prog be (aF [(oy,oe),(Fr,Hp),(LN,Qk G m 0 0 []),(ny,Qn),(uP,Qm)]) (aZ [(999998,.dead,none),(51,.vec 1 kr .none,none),(52,.vec 1 (B++kr) (.tail 0 (B++kr).length),some λT=>{T with tails:=T.tails.set 0 ((B++kr).length,1,true)})]) 300 (fbL n B W L (aD prog qC 0)) 0 qC [.vec 15 L .none,.val (.int .u8 n)] am Q=
 (bif decide ((↑(length L):Int)>(30:Int))
 then Q aI am
 else ((aD prog qC (0:Nat)=aD prog qC (0:Nat))∧
 (((@Eq (Option Nat) .none .none)∧
 ((@Eq (Nat) 0 0)∧
 ((@Eq (List Nat) [] [])∧
 (((@Eq (Option TV) (.some aE) (.some aE))∧
 ((@Eq (Option TV) (.some aE) (.some aE))∧
 True))∧
 ((@Eq (VT) ⟨[],[(0,(1,true)),(0,(15,true))]⟩ ⟨[],[(0,(1,true)),(0,(15,true))]⟩)∧
 ((@Eq (Bool) true true)∧
 (@Eq (List TV) [aj,(bp n),mZ,(.vec 15 [] (.tail 1 0)),(dW L),(ah (↑(length L):Int)),aB] [aj,(bp n),mZ,(.vec 15 [] (.tail 1 0)),(dW L),(ah (↑(length L):Int)),aB])))))))∧
 ((bc prog (λkk=>(bif beq kk (0:Nat) then (.some gl) else .none)) (.slice 22 (.tmp 49) .none (.some (.tmp 50)) .none) [(49,(av eF)),(50,(ah (wrap i64 (tmod n (19:Int)))))] (av kr)∧
 (bb prog (λkk=>(bif beq kk (0:Nat) then (.some gl) else .none)) 0 ⟨[],[((length B),(1,true)),((length W),(15,true))]⟩ (.call ⟨(.builtin .append),#[(.tmp 48),(.tmp 51)],#[22,22]⟩) [(48,(bS B (length B))),(51,(av kr))] (bS (B++kr) (length (B++kr))) ⟨[],[((length (B++kr)),(1,true)),((length W),(15,true))]⟩∧
 (WS (B++kr) 0 (G) (m) 0 0 []∧
 (bif ax eql (k6 m (wrap i64 (tmod n (19:Int))))
 then (EI (G)∧
 (EI (W)∧
 (WU (G) (W)∧
 Q aI ⟨[eg],[((length (B++kr)),(1,true)),((length W),(15,true))]⟩)))
 else Q aj ⟨[eg],[((length (B++kr)),(1,true)),((length W),(15,true))]⟩))))∧
 (∀b':Bs,(∀W':Bs,(∀jj:Int,(∀oo:List VO,Q aI ⟨(oo),[((length b'),(1,true)),((length W'),(15,true))]⟩)))))))):=by kernel_rfl
theorem YN (L:Bs)(n:Int)(Q:TV→VT→Prop):ar prog be (aF [(oy,oe)]) (aZ [(999998,.dead,none)]) 300 (ct [(0,λ_ _ _ _ _ _=>False,aD prog qC 0)]) 0 qC [.vec 15 L .none,.val (.int .u8 n)] am Q=
 (bif decide ((↑(length L):Int)>(30:Int))
 then Q aI am
 else ((aD prog qC (0:Nat)=aD prog qC (0:Nat))∧
 False)):=by kernel_rfl
def Ft (l:List Int):Prop:=∀z∈l,0≤z∧z<256
def Pm (m:MsV):Prop:=(∀c∈m.op.l,Ft c.2)∧(0≤m.op.i∧m.op.i<4294967296)∧(0≤m.u.a.h∧m.u.a.h<4294967296)∧Ft m.f.d
section
open Go Go.RowKit
end
section
open Go.RowKit Go.Deep
end
--bumped 32
section
open Go.RowKit Go.Deep
end
--bumped 32
theorem rO:IsB eF:=⟨⟨_,rfl,λz hz=>by
 rcases mem_append.1 hz with h | h
 ·rw [List.eq_of_mem_replicate h];decide
 ·simp at h;omega⟩,by unfold eF;rw [kB];decide⟩
theorem rP:eF.length=19:=by unfold eF;rw [kB];rfl
theorem aah (Q:Option (Nat × Bs)→Prop):(Px prog be (λ_=>none) 3000 (λ_=>none) 0 Fr [] am λx T'=>Q (yx x T'))=Q (some (1,eF)):=by kernel_rfl
theorem YO:VCx prog be 0 Fr [] ⟨[],[]⟩ λx T'=>x=.vec 1 eF .none∧T'=⟨[],[]⟩:=
 VCx.freezeRow (λf g=>rO.ren f g) (Nq ac aa an ai (by rw [aah λo=>o=some (1,eF)]))
theorem MH:∀ro ys T K,Hp ro ys T K→VCx prog be ro Fr ys T K:=by
 intro ro ys T K hw
 unfold Hp at hw
 split at hw
 ·exact VCx.liftPure bQ YO rfl (λf g=>by simp only [TV.ren,rO.ren,Tok.ren]) hw
 ·exact hw.elim
theorem Pn {pas:Int}{w:Bs}(hl:w.length<19):ig pas w=.cells [.val (.bool true),.val (.int .i64 pas),.vec 1 w .none,.val (.int .i64 0),.val (.int .i64 0),.vec 1 [] .none,.val (.int .i64 0)]:=by
 unfold ig iq qx mg jg ic eR
 rw [dS pas hl];rfl
theorem Pp {pas:Int}{w:Bs}(hl:w.length<19):VCx prog ae 0 MF [.ptr 0 0] ⟨[ig pas w],[]⟩ λx T'=>x=.val (.int .i64 (19-(w.length:Int)))∧T'=⟨[ig pas w],[]⟩:=by
 rw [Pn hl]
 exact ak ac aa (aL (l:= [(26,λ_ _ _ _=>False)]) λp hp=>by obtain rfl:=mem_singleton.1 hp;exact λ_ _ _ _ h=>h.elim) ai (Uh pas _ _ w _) (aS (decide_eq_true (by omega)) ⟨by rw [b6 (by omega) (by omega)],rfl⟩)
theorem YP (n:Int):∀ro ys T K,Ra n ro ys T K→VCx prog be ro MF ys T K:=by
 intro ro ys T K hw
 unfold Ra at hw
 split at hw
 ·split at hw
  ·rename_i o ho
   obtain ⟨⟨pas,w,hro,hw,hl,rfl,rfl⟩,hk⟩:=hw
   exact WY hro ho rfl (rF hw) (λ_ _=>rfl) (Pp hl) hk
  ·exact hw.elim
 ·exact hw.elim
theorem YQ (o2 o3:VO)(M:List TV):∀ro ys T K,Rb o2 o3 M ro ys T K→VCx prog be ro rC ys T K:=by
 intro ro ys T K hw
 unfold Rb at hw
 split at hw
 ·split at hw
  ·rename_i o ho
   refine EJ o2 [] 0 0 [] ro _ T K ?_
   unfold GX
   simp only [ho,List.getElem?_cons_zero] at hw ⊢
   exact hw
  ·rename_i o _ ho
   refine EJ o3 [M] 0 0 [] ro _ T K ?_
   unfold GX
   simp only [ho,List.getElem?_cons_zero] at hw ⊢
   exact hw
  ·exact hw.elim
 ·exact hw.elim
theorem YR:gG nP∧fC nP=true∧cZ nP=eF:=⟨Q7,by decide,by kernel_rfl⟩
theorem v7:VCx prog be 0 oy [] ⟨[],[]⟩ mw:=by
 have h9:(eF.take 9).length=9:=by rw [length_take,rP];rfl
 have hx9:bh (eF.take 9) 0=([],eF.take 9,none):=dS 0 (by omega)
 have hx0:bh ([]:Bs) 0=([],[],none):=dS 0 (by simp)
 have hall:bh eF 0=([nP.toS],[],none):=by
  have h:=Fq (r:= []) (by simp) [nP] λm hm=>by obtain rfl:=mem_singleton.1 hm;exact ⟨YR.1,YR.2.1⟩
  simpa [YR.2.2] using h
 have hS:bf prog be (aF [(Er,GW (ig 0 [])),(Fr,Hp),(rC,Rb (ig 0 (eF.take 9)) (ig 0 eF) nP.toS.cells),(MF,Ra 10)]):=aL λp hp=>by
  rcases mem_cons.1 hp with rfl | hp;exact LO _
  rcases mem_cons.1 hp with rfl | hp;exact MH
  rcases mem_cons.1 hp with rfl | hp;exact YQ _ _ _
  obtain rfl:=mem_singleton.1 hp;exact YP _
 refine ak ac aa hS ai (aaf (eF.take 9) (eF.drop 9) nP.toS.cells 10 _ _ _ _) ⟨rfl,?_,⟨0,[],le_refl _,rfl,rO.take _,rfl,?_,?_,?_,?_⟩,⟨0,eF.take 9,le_refl _,rO.take _,by omega,rfl,by rw [h9];rfl⟩,?_,⟨0,eF.take 9,le_refl _,rfl,?_,?_,?_,?_,?_,?_⟩,aS (uD _ _) trivial⟩
 ·exact Bw (G:=be) (x:=.tmp 10) (i:=.const (.int .i64 9)) (l:= [(10,.vec 1 eF .none)]) (es:=eF) (tok:=.none) (k:=.i64) (z:=9) rfl rfl (by omega) (by rw [rP];decide)
 ·unfold qO eR;rw [nil_append,hx9,hx0];rfl
 ·unfold qx mg;rw [nil_append,hx9];rfl
 ·unfold jg;rw [nil_append,hx9]
 ·unfold ic;rw [nil_append,hx9]
 ·exact LP (G:=be) (x:=.tmp 19) (i:=.const (.int .i64 9)) (l:= [(19,.vec 1 eF .none)]) (es:=eF) (tok:=.none) (k:=.i64) (z:=9) rfl rfl (by omega) (by rw [rP];decide)
 ·rw [take_append_drop];exact rO
 ·rw [take_append_drop]
 ·unfold qO eR;rw [take_append_drop,hx9,hall];rfl
 ·unfold qx mg;rw [take_append_drop,hall];rfl
 ·unfold jg;rw [take_append_drop,hall]
 ·unfold ic;rw [take_append_drop,hall]
theorem MI {m:MsV}(hm:gG m):IsB (cZ m):=by
 unfold cZ
 cases fC m
 ·exact .nil
 ·exact (Q8 (zC hm).1 (zC hm).2).1
theorem MJ (v:Bs):∀ro ys T K,MG v ro ys T K→VCx prog be ro Hh ys T K:=by
 intro ro ys T K hw
 unfold MG at hw
 split at hw
 ·obtain ⟨⟨m,rfl,hm,e⟩,hk⟩:=hw
  rw [e] at hk
  refine VCx.liftPure bQ (VCx.anyG (YF hm)) (by simp only [ap,TV.ren,m.ren]) (λf h=> ?_) hk
  simp only [TV.ren,(MI hm).ren,Tok.ren]
 ·exact hw.elim
def mQ (ms:List MsV)(j:Nat):List MsV:=(ms.take j).filter fC
def j7 (ms:List MsV)(j:Nat):Bs:=((mQ ms j).map cZ).flatten
def jJ (ms:List MsV)(j:Nat):Bs:=(mQ ms j).map MsV.cells
section
variable {ms:List MsV}
theorem BL {j:Nat}(h:j<ms.length):mQ ms (j+1)=mQ ms j++(if fC ms[j]=true then [ms[j]] else []):=by
 unfold mQ
 rw [take_add_one,getElem?_eq_getElem h,List.filter_append]
 congr 1
 simp only [Option.toList_some,List.filter_cons,List.filter_nil]
theorem Fu {j:Nat}(h:j<ms.length)(hg:fC ms[j]=true):j7 ms (j+1)=j7 ms j++cZ ms[j]∧jJ ms (j+1)=jJ ms j++ [ms[j].cells]:=by
 unfold j7 jJ
 rw [BL h,if_pos hg]
 simp
theorem Ju {j:Nat}(h:j<ms.length)(hg:fC ms[j]=false):j7 ms (j+1)=j7 ms j∧jJ ms (j+1)=jJ ms j:=by
 unfold j7 jJ
 rw [BL h,hg]
 simp
theorem Hq {m:MsV}(hm:gG m)(hg:fC m=true):19≤(cZ m).length∧(cZ m).length≤4096:=by
 have h1:=(ME hm hg).1.b
 have h2:=(zC hm).2
 have h3:(cZ m).length=19+(cX m).length:=by rw [h1];exact zD _ _ _
 omega
theorem Ui {m:MsV}(hg:fC m=false):cZ m= []:=by unfold cZ;rw [hg];rfl
variable (hms:∀m∈ms,gG m)
include hms
theorem Uj (j:Nat):∀m∈mQ ms j,gG m∧fC m=true:=λm hm=>by
 have:=List.mem_filter.1 hm
 exact ⟨hms m (List.mem_of_mem_take this.1),this.2⟩
theorem Fv (j:Nat):(j7 ms j).length≤4096*j∧(jJ ms j).length≤j:=by
 induction j with
 |zero=>exact ⟨by simp [j7,mQ],by simp [jJ,mQ]⟩
 |succ j ih=>
  by_cases h:j<ms.length
  ·cases hg:fC ms[j] with
   |true=>
    have h1:=Fu h hg
    have h2:=Hq (hms _ (getElem_mem h)) hg
    rw [h1.1,h1.2,length_append,length_append,List.length_singleton]
    omega
   |false=>
    have h1:=Ju h hg
    rw [h1.1,h1.2]
    omega
  ·have e:mQ ms (j+1)=mQ ms j:=by unfold mQ;rw [take_of_length_le (by omega),take_of_length_le (by omega)]
   unfold j7 jJ at ih ⊢
   rw [e]
   omega
theorem MK (hl:ms.length≤30)(j:Nat)(hj:j≤ms.length):IsB (j7 ms j):=by
 induction j with
 |zero=>exact .nil
 |succ j ih=>
  have hj':j<ms.length:=by omega
  have ih:=ih (by omega)
  cases hg:fC ms[j] with
  |true=>
   have h1:=Fu hj' hg
   have h2:=(Fv hms (j+1)).1
   rw [h1.1] at h2 ⊢
   exact ih.append (MI (hms _ (getElem_mem hj'))) (by omega)
  |false=>rw [(Ju hj' hg).1];exact ih
end
theorem ML {G:aV}{objs:List VO}{b v:Bs}{h s x:Nat}{l:List (Nat × TV)}{tx:Tok}(hs:aP G l (.tmp s)=.vec 1 b (.tail 0 b.length))(hx:aP G l (.tmp x)=.vec 1 v tx)(hb:b.length+v.length≤32000000):
  bb prog G 0 ⟨objs,[(b.length,1,true),(h,15,true)]⟩ (.call ⟨.builtin .append,#[.tmp s,.tmp x],#[22,22]⟩) l (.vec 1 (b++v) (.tail 0 (b++v).length)) ⟨objs,[((b++v).length,1,true),(h,15,true)]⟩:=by
 obtain ⟨inf,i1,i2,i3,i4⟩:=cO
 have hh:=eQ (inf:=inf) (P:=prog) (G:=G) (ro:=0) (T:=⟨objs,[(b.length,1,true),(h,15,true)]⟩) (T1:=⟨objs,[(b.length,1,true),(h,15,true)]⟩) (t:=22) (tx:=22) (s:=.tmp s) (x:=.tmp x) (l:=l) (es:=b) (es2:=v) (k:=0) (n:=b.length) (bn:=true) Tryz.underlying22 i1 i4 (by rw [i2];rfl) (by rw [i2];decide) (by kernel_rfl)
  (by rw [i2,hs];simp [cM]) (by rw [i2,hx];simp [fP]) (by rw [i3];omega)
 rw [i2] at hh
 rw [length_append]
 exact hh
theorem YS {G:aV}{objs:List VO}{W:Bs}{c:List TV}{g s x:Nat}{l:List (Nat × TV)}(hs:aP G l (.tmp s)=.vec 15 W (.tail 1 W.length))(hx:aP G l (.tmp x)=.vec 15 [c] .full)(hb:W.length≤64000000):
  bb prog G 0 ⟨objs,[(g,1,true),(W.length,15,true)]⟩ (.call ⟨.builtin .append,#[.tmp s,.tmp x],#[25,25]⟩) l (.vec 15 (W++ [c]) (.tail 1 (W++ [c]).length)) ⟨objs,[(g,1,true),((W++ [c]).length,15,true)]⟩:=by
 obtain ⟨inf,z,i1,i2,i3,i4,i5⟩:=sR
 have hh:=eQ (inf:=inf) (P:=prog) (G:=G) (ro:=0) (T:=⟨objs,[(g,1,true),(W.length,15,true)]⟩) (T1:=⟨objs,[(g,1,true),(W.length,15,true)]⟩) (t:=25) (tx:=25) (s:=.tmp s) (x:=.tmp x) (l:=l) (es:=W) (es2:= [c]) (k:=1) (n:=W.length) (bn:=true) Tryz.underlying25 i1 i4 (by rw [i2];exact i5) (by rw [i2];decide) (by kernel_rfl)
  (by rw [i2,hs];simp [cM]) (by rw [i2,hx];simp [fP]) (by
   have h2:=Nat.mul_le_mul (show W.length+ [c].length≤64000001 by simp only [List.length_singleton];omega) i3
   omega)
 rw [i2] at hh
 rw [length_append]
 exact hh
def Fw (ms:List MsV)(n:Int)(j:Nat):List TV:=BK false n (j7 ms j) (jJ ms j) (ms.map MsV.cells) j
def Jv (ms:List MsV)(j:Nat):VT:=Rc (j7 ms j).length (jJ ms j).length
def YT (ms:List MsV)(n:Int)(e:Exit)(vs:List TV)(T:VT):Prop:=(e=.normal∧vs=Fw ms n ms.length∧T=Jv ms ms.length)∨(e=.ret∧∃(b' W':Bs) (jj:Int) (oo:List VO),vs=BK true n b' W' (ms.map MsV.cells) jj∧T=⟨oo,[(b'.length,1,true),(W'.length,15,true)]⟩)
theorem YU (f g:Nat→Option Nat)(l:List MsV):bk f g (l.map MsV.cells)=l.map MsV.cells:=by
 induction l with
 |nil=>rfl
 |cons m l ih=>rw [map_cons,bk,ih,m.ren]
theorem YV {G:aV}{x i:Nat}{l:List (Nat × TV)}{ms:List MsV}{j:Nat}(hj:j<ms.length)(hx:aP G l (.tmp x)=.vec 15 (ms.map MsV.cells) .none)(hi:aP G l (.tmp i)=.val (.int .i64 (j:Int))):bc prog G (.indexAddr 25 (.tmp x) (.tmp i)) l (.elt ms[j].cells):=by
 obtain ⟨inf,z,i1,i2,i3,i4,i5⟩:=sR
 exact dy (inf:=inf) Tryz.underlying25 i1 (by rw [i2];exact hx) hi (by omega) (by rw [toNat_natCast,getElem?_map,getElem?_eq_getElem hj];rfl)
theorem Uk {ms:List MsV}(hms:∀m∈ms,gG m)(hl:ms.length≤30)(n:Int)(K:KX)(hK:∀e vs T,YT ms n e vs T→K e (aQ 75 BJ vs) T []):
  VWx prog be none 0 (aD prog qC 0) (aQ 75 BJ (Fw ms n 0)) (Jv ms 0) [] K:=by
 refine dO (f:=qC) (id:=0) (by kernel_rfl) 75 BJ (λj:Nat=>ms.length-j) (Fw ms n) (Jv ms) (λj=>j≤ms.length) 0 2 (λ_ _=>⟨le_refl _,le_refl _⟩) (YT ms n) (λj hj=> ?_) 0 (zero_le _) K hK
 have hvs:∀j,j≤ms.length→ap (aA 0) (aA 2) (Fw ms n j)=Fw ms n j:=λj hj=>by
  simp only [Fw,BK,ap,TV.ren,(MK hms hl j hj).ren,jJ,YU,Tok.ren]
  rfl
 have hB:=Fv hms j
 by_cases hlt:j<ms.length
 ·have hm:=hms _ (getElem_mem hlt)
  have hS:bf prog be (aF [(Hh,MG (cZ ms[j])),(oy,oe)]):=aL λp hp=>by
   rcases mem_cons.1 hp with rfl | hp;exact MJ _
   obtain rfl:=mem_singleton.1 hp;exact sw bQ v7
  have e1:wrap i64 ((j:Int)+1)=((j+1:Nat):Int):=by rw [b6 (by omega) (by omega)];rfl
  have hM:(jJ ms j).length≤64000000:=by omega
  have nxt:∀(b2 W2:Bs) (c:List TV),b2=j7 ms (j+1)→W2=jJ ms (j+1)→Ia 75 0 (λj:Nat=>ms.length-j) (Fw ms n) (Jv ms) (λj=>j≤ms.length) 0 2 j (YT ms n) .normal (BK false n b2 W2 (ms.map MsV.cells) (wrap i64 ((j:Int)+1))) ⟨[.cells c],[(b2.length,1,true),(W2.length,15,true)]⟩ [] 75:=λb2 W2 c h1 h2=>by
   subst h1 h2
   refine ⟨rfl,rfl,j+1,hlt,by show ms.length-(j+1)<ms.length-j;omega,.inr ⟨rfl,?_⟩⟩
   rw [e1]
   exact hvs (j+1) hlt
  cases hg:fC ms[j] with
  |true=>
   obtain ⟨h1,h2⟩:=Fu hlt hg
   have hv:=Hq hm hg
   refine bF ac aa hS ai (Fs _ (j7 ms j) (jJ ms j) (cZ ms[j]) (j7 ms (j+1)) (jJ ms (j+1)) ms[j].toS n j _) ?_
   refine aS (decide_eq_true (by rw [length_map];omega)) ⟨YV hlt rfl rfl,⟨ms[j],rfl,hm,rfl⟩,aq (λc1=> ?_) (λc1=>aS (decide_eq_true (by omega)) ?_)⟩
   ·exact ⟨rfl,rfl,.inr ⟨rfl,_,_,_,_,rfl,rfl⟩⟩
   ·rw [h1,h2]
    refine ⟨⟨ML rfl rfl (by omega),⟨rfl,trivial⟩,⟨YS rfl rfl hM,?_⟩,trivial⟩,trivial⟩
    exact nxt _ _ _ h1.symm h2.symm
  |false=>
   obtain ⟨h1,h2⟩:=Ju hlt hg
   have hv:=Ui hg
   refine bF ac aa hS ai (Fs _ (j7 ms j) (jJ ms j) (cZ ms[j]) [] [] ms[j].toS n j _) ?_
   refine aS (decide_eq_true (by rw [length_map];omega)) ⟨YV hlt rfl rfl,⟨ms[j],rfl,hm,rfl⟩,aq (λc1=> ?_) (λc1=>aO (decide_eq_false (by rw [hv];simp)) ?_)⟩
   ·exact ⟨rfl,rfl,.inr ⟨rfl,_,_,_,_,rfl,rfl⟩⟩
   ·exact nxt _ _ _ h1.symm h2.symm
 ·refine bF ac aa (C:=aF [(Hh,MG []),(oy,oe)]) (aL λp hp=>by
   rcases mem_cons.1 hp with rfl | hp;exact MJ _
   obtain rfl:=mem_singleton.1 hp;exact sw bQ v7) ai (Fs _ (j7 ms j) (jJ ms j) [] [] [] m0S n j _) ?_
  obtain rfl:j=ms.length:=by omega
  exact aO (decide_eq_false (by rw [length_map];omega)) ⟨rfl,rfl,.inl ⟨rfl,rfl,rfl⟩⟩
theorem MM (l:List MsV):l.map MsV.cells=(l.map MsV.toS).map MsgS.cells:=by rw [map_map];rfl
theorem YW {ms:List MsV}(hms:∀m∈ms,gG m){n:Int}(hn:0≤n∧n<256):VCx prog be 0 qC [.vec 15 (ms.map MsV.cells) .none,.val (.int .u8 n)] ⟨[],[]⟩ mw:=by
 by_cases hl:ms.length≤30
 ·obtain ⟨k,hk⟩:∃k:Nat,tmod n 19=(k:Int):=⟨(tmod n 19).toNat,by rw [Int.tmod_eq_emod_of_nonneg hn.1];omega⟩
  have hk19:k<19:=by rw [Int.tmod_eq_emod_of_nonneg hn.1] at hk;omega
  have hBl:=Fv hms ms.length
  have hB:=MK hms hl ms.length (le_refl _)
  have hkr:(eF.take k).length=k:=by rw [length_take,rP];omega
  have hBk:IsB (j7 ms ms.length++eF.take k):=hB.append (rO.take _) (by rw [length_append,hkr];omega)
  have hall:=Fq (r:=eF.take k) (by omega) (mQ ms ms.length) (Uj hms ms.length)
  have hfd:bh (j7 ms ms.length++eF.take k) 0=((mQ ms ms.length).map MsV.toS,eF.take k,none):=hall
  have hO:mg (j7 ms ms.length++eF.take k) 0=true:=by unfold mg;rw [hfd];rfl
  have hG:(eR (j7 ms ms.length++eF.take k) 0).map MsgS.cells=jJ ms ms.length:=by
   unfold eR jJ
   rw [hfd,MM]
  have hml:EI (jJ ms ms.length):=⟨_,nx hBk,by
   have:=congrArg length hG
   rw [length_map] at this
   unfold eR at this
   omega,hG.symm⟩
  have hS:bf prog be (aF [(oy,oe),(Fr,Hp),(LN,Qk (jJ ms ms.length) (k:Int) 0 0 []),(ny,Qn),(uP,Qm)]):=aL λp hp=>by
   rcases mem_cons.1 hp with rfl | hp;exact sw bQ v7
   rcases mem_cons.1 hp with rfl | hp;exact MH
   rcases mem_cons.1 hp with rfl | hp;exact W1 _ _ _ _ _
   rcases mem_cons.1 hp with rfl | hp;exact W4
   obtain rfl:=mem_singleton.1 hp;exact W3
  have hL:dd prog be (fbL n (j7 ms ms.length) (jJ ms ms.length) (ms.map MsV.cells) (aD prog qC 0)):=bA λp hp=>by
   obtain rfl:=mem_singleton.1 hp
   refine b9 λK hK=> ?_
   refine Uk hms hl n K ?_
   rintro e vs T (⟨rfl,rfl,rfl⟩ | ⟨rfl,b',W',jj,oo,rfl,rfl⟩)
   ·have:=hK.1
    rw [length_map] at this
    exact this
   ·exact hK.2 b' W' jj oo
  refine ak ac aa hS hL (aag _ _ (ms.map MsV.cells) _ (eF.take k) n k _) ?_
  rw [hk,show wrap i64 (k:Int)=(k:Int) from b6 (by omega) (by omega)]
  refine aO (decide_eq_false (by rw [length_map];omega)) ⟨rfl,⟨rfl,rfl,rfl,⟨rfl,rfl,trivial⟩,rfl,rfl,rfl⟩,⟨?_,?_,?_,aS (uD _ _) ⟨hml,hml,⟨rfl,hml⟩,trivial⟩⟩,λ_ _ _ _=>trivial⟩
  ·have:=Bw (G:=be) (x:=.tmp 49) (i:=.tmp 50) (l:= [(49,.vec 1 eF .none),(50,.val (.int .i64 (k:Int)))]) (es:=eF) (tok:=.none) (k:=.i64) (z:=(k:Int)) rfl rfl (by omega) (by rw [rP];omega)
   rw [toNat_natCast] at this
   exact this
  ·exact ML rfl rfl (by rw [hkr];omega)
  ·refine ⟨hBk,hG.symm,?_,?_,?_,?_⟩
   ·rw [hfd];exact hkr.symm▸rfl
   ·unfold qx;rw [hO];rfl
   ·unfold jg;rw [hfd]
   ·unfold ic;rw [hfd]
 ·refine ak ac aa (aL (l:= [(oy,oe)]) λp hp=>by obtain rfl:=mem_singleton.1 hp;exact sw bQ v7) (bA (l:= [(0,λ_ _ _ _ _ _=>False,aD prog qC 0)]) λp hp=>by
   obtain rfl:=mem_singleton.1 hp
   exact λrd ro σ T D K h=>h.elim) (YN (ms.map MsV.cells) n _) ?_
  exact aS (decide_eq_true (by rw [length_map];omega)) trivial
section
open Go.ChangeShapes Go.WideShapes Go.ChangeAt Go.RowKit Go.Joins Go.Deep
theorem xI {α:Type}{k:Nat}:∀(l:List (List α)),(∀x∈l,x.length=k)→∀(j:Nat) u,l.flatten[j]?=some u→∃i c x,c<k∧j=i*k+c∧l[i]?=some x∧x[c]?=some u
 |[],_,j,u,h=>by simp at h
 |a::r,hz,j,u,h=>by
  have ha:=hz a (by simp)
  rw [flatten_cons] at h
  rcases lt_or_ge j a.length with hj | hj
  ·rw [List.getElem?_append_left hj] at h
   exact ⟨0,j,a,by omega,by omega,rfl,h⟩
  ·rw [List.getElem?_append_right hj] at h
   obtain ⟨i,c,x,h1,h2,h3,h4⟩:=xI r (λx hx=>hz x (by simp [hx])) _ u h
   refine ⟨i+1,c,x,h1,?_,by simpa using h3,h4⟩
   rw [Nat.add_mul];omega
section
variable {P:Program}{H:Type}{enc:TypeId × Value→H}{w:World}{base:Nat}{spare:Nat→Bool}{held:Bool}
end
end
section
open Go.ChangeShapes Go.WideShapes Go.ChangeAt Go.RowKit Go.Joins Go.Deep
inductive SH where
 |int (k:IntKind)
 |bool
 |str
 |slice (es:List SH)
mutual
def SH.Fits:SH→TV→Prop
 | .int k,x=>∃z,x=.val (.int k z)∧(Lit.int k z).wf=true
 | .bool,x=>∃b,x=.val (.bool b)
 | .str,x=>∃s:ByteArray,x=.val (.string s)∧s.size≤maxLen
 | .slice es,x=>∃l:List (List TV),x=.vec es.length l .none∧l.length≤maxLen∧∀e∈l,fa es e
def fa:List SH→List TV→Prop
 |[],[]=>True
 |s::ss,x::xs=>s.Fits x∧fa ss xs
 |_,_=>False
end
theorem BM:∀{ss:List SH} {xs:List TV},fa ss xs→xs.length=ss.length
 |[],[],_=>rfl
 |[],_::_,h=>by simp [fa] at h
 |_::_,[],h=>by simp [fa] at h
 |s::ss,x::xs,h=>by
  simp only [fa] at h
  simp [BM h.2]
theorem bR {s:SH}{ss:List SH}{xs:List TV}(h:fa (s::ss) xs):∃x r,xs=x::r∧s.Fits x∧fa ss r:=by
 cases xs with
 |nil=>simp [fa] at h
 |cons x r=>simp only [fa] at h;exact ⟨x,r,rfl,h⟩
theorem nA {xs:List TV}(h:fa [] xs):xs= []:=by
 cases xs with
 |nil=>rfl
 |cons x r=>simp [fa] at h
theorem dR {k:IntKind}{x:TV}(h:SH.Fits (.int k) x):∃z,x=.val (.int k z)∧(Lit.int k z).wf=true:=by simpa [SH.Fits] using h
theorem MN {x:TV}(h:SH.Fits .bool x):∃b,x=.val (.bool b):=by simpa [SH.Fits] using h
theorem iE {es:List SH}{x:TV}(h:SH.Fits (.slice es) x):∃l:List (List TV),x=.vec es.length l .none∧l.length≤maxLen∧∀e∈l,fa es e:=by simpa [SH.Fits] using h
def zE (f:TypeId→Option SH):List TypeId→Option (List SH)
 |[]=>some []
 |t::r=>match f t,zE f r with
  |some s,some l=>some (s::l)
  |_,_=>none
theorem Hr {f:TypeId→Option SH}:∀{ts:List TypeId} {ss:List SH},zE f ts=some ss→ss.length=ts.length
 |[],ss,h=>by simp [zE] at h;subst h;rfl
 |t::r,ss,h=>by
  simp only [zE] at h
  split at h
  ·rename_i s l h1 h2
   injection h with h;subst h
   simp [Hr h2]
  ·cases h
def Fx (P:Program):Nat→TypeId→Option SH
 | 0,_=>none
 |n+1,t=>match P.underlying t with
  |some (.int k)=>some (.int k)
  |some .bool=>some .bool
  |some .string=>some .str
  |some (.slice e)=>match rq P n e with
   |some ts=>bif beq (P.cellsOf e) ts.length&&ble 1 ts.length then (zE (Fx P n) ts).map .slice else none
   |none=>none
  |_=>none
section
variable {P:Program}{H:Type}{enc:TypeId × Value→H}{w:World}{base:Nat}{held:Bool}
end
end
section
open Go.RowKit Go.Deep Go.WideShapes Go.ChangeAt
theorem v8 {α:Type}(f:α→List TV)(Q:α→Prop):∀(l:List (List TV)),(∀e∈l,∃a,e=f a∧Q a)→∃al:List α,l=al.map f∧∀a∈al,Q a
 |[],_=>⟨[],rfl,λ_ h=>by cases h⟩
 |e::l,h=>by
  obtain ⟨a,rfl,ha⟩:=h _ mem_cons_self
  obtain ⟨al,rfl,hs⟩:=v8 f Q l λe he=>h e (mem_cons_of_mem _ he)
  exact ⟨a::al,rfl,λb hb=>by
   rcases mem_cons.1 hb with rfl | hb
   ·exact ha
   ·exact hs b hb⟩
theorem YX {z:Int}(h:(Lit.int .u8 z).wf=true):0≤z∧z<256:=by
 simp [wf] at h
 have e0:u8.min=0:=by decide
 have e1:u8.max=255:=by decide
 omega
theorem Rg {z:Int}(h:(Lit.int .u32 z).wf=true):0≤z∧z<4294967296:=by
 simp [wf] at h
 have e0:u32.min=0:=by decide
 have e1:u32.max=4294967295:=by decide
 omega
theorem BN {l:List (List TV)}(h:∀e∈l,fa [.int .u8] e):∃zs,l=bV zs∧Ft zs:=v8 bT _ l λe he=>by
 obtain ⟨x,r,rfl,h1,h2⟩:=bR (h e he)
 obtain rfl:=nA h2
 obtain ⟨z,rfl,hz⟩:=dR h1
 exact ⟨z,rfl,YX hz⟩
theorem MO {l:List (List TV)}(h:∀e∈l,fa [.int .u32,.int .i64] e):∃ps,l=bm ps:=by
 obtain ⟨ps,h1,_⟩:=v8 cP (λ_=>True) l λe he=>by
  obtain ⟨x,r,rfl,h1,h2⟩:=bR (h e he)
  obtain ⟨y,r,rfl,h3,h4⟩:=bR h2
  obtain rfl:=nA h4
  obtain ⟨a,rfl,_⟩:=dR h1
  obtain ⟨n,rfl,_⟩:=dR h3
  exact ⟨(a,n),rfl,trivial⟩
 exact ⟨ps,h1⟩
theorem YY {l:List (List TV)}(h:∀e∈l,fa [.int .i64] e):∃ps,l=iV ps:=by
 obtain ⟨ps,h1,_⟩:=v8 iT (λ_=>True) l λe he=>by
  obtain ⟨x,r,rfl,h1,h2⟩:=bR (h e he)
  obtain rfl:=nA h2
  obtain ⟨a,rfl,_⟩:=dR h1
  exact ⟨a,rfl,trivial⟩
 exact ⟨ps,h1⟩
theorem Pq {l:List (List TV)}(h:∀e∈l,fa [.int .i64,.slice [.int .u8]] e):∃cs,l=bM cs∧∀c∈cs,Ft c.2:=v8 BE (λc=>Ft c.2) l λe he=>by
 obtain ⟨x,r,rfl,h1,h2⟩:=bR (h e he)
 obtain ⟨y,r,rfl,h3,h4⟩:=bR h2
 obtain rfl:=nA h4
 obtain ⟨a,rfl,_⟩:=dR h1
 obtain ⟨b,rfl,_,hb⟩:=iE h3
 obtain ⟨zs,rfl,hz⟩:=BN hb
 exact ⟨(a,zs),rfl,hz⟩
def YZ:List SH:= [.int .i64,.int .i64,.int .i64,.int .u32,.slice [.int .i64,.slice [.int .u8]],.slice [.int .u32,.int .i64],.int .i64,.slice [.int .i64],.int .u32,.int .i64,.bool,.slice [.int .u32,.int .i64],.int .i64,.int .i64,.slice [.int .u8]]
theorem Ul {xs:List TV}(h:fa YZ xs):∃m:MsV,xs=m.cells∧Pm m:=by
 obtain ⟨x0,r0,rfl,h0,g0⟩:=bR h
 obtain ⟨x1,r1,rfl,h1,g1⟩:=bR g0
 obtain ⟨x2,r2,rfl,h2,g2⟩:=bR g1
 obtain ⟨x3,r3,rfl,h3,g3⟩:=bR g2
 obtain ⟨x4,r4,rfl,h4,g4⟩:=bR g3
 obtain ⟨x5,r5,rfl,h5,g5⟩:=bR g4
 obtain ⟨x6,r6,rfl,h6,g6⟩:=bR g5
 obtain ⟨x7,r7,rfl,h7,g7⟩:=bR g6
 obtain ⟨x8,r8,rfl,h8,g8⟩:=bR g7
 obtain ⟨x9,r9,rfl,h9,g9⟩:=bR g8
 obtain ⟨xa,ra,rfl,ha,ga⟩:=bR g9
 obtain ⟨xb,rb,rfl,hb,gb⟩:=bR ga
 obtain ⟨xc,rc,rfl,hc,gc⟩:=bR gb
 obtain ⟨xd,rd,rfl,hd,gd⟩:=bR gc
 obtain ⟨xe,re,rfl,he,ge⟩:=bR gd
 obtain rfl:=nA ge
 obtain ⟨k,rfl,_⟩:=dR h0
 obtain ⟨n,rfl,_⟩:=dR h1
 obtain ⟨hh,rfl,_⟩:=dR h2
 obtain ⟨i,rfl,wi⟩:=dR h3
 obtain ⟨l,rfl,_,hl⟩:=iE h4
 obtain ⟨w,rfl,_,hw⟩:=iE h5
 obtain ⟨o,rfl,_⟩:=dR h6
 obtain ⟨p,rfl,_,hp⟩:=iE h7
 obtain ⟨j,rfl,wj⟩:=dR h8
 obtain ⟨q,rfl,_⟩:=dR h9
 obtain ⟨b,rfl⟩:=MN ha
 obtain ⟨x,rfl,_,hx⟩:=iE hb
 obtain ⟨c,rfl,_⟩:=dR hc
 obtain ⟨s,rfl,_⟩:=dR hd
 obtain ⟨d,rfl,_,hd2⟩:=iE he
 obtain ⟨l,rfl,bl⟩:=Pq hl
 obtain ⟨w,rfl⟩:=MO hw
 obtain ⟨p,rfl⟩:=YY hp
 obtain ⟨x,rfl⟩:=MO hx
 obtain ⟨d,rfl,bd⟩:=BN hd2
 exact ⟨⟨k,⟨n,hh,i,l⟩,⟨w,⟨o,p,j,q,b⟩,x⟩,⟨c,s,d⟩⟩,rfl,bl,Rg wi,Rg wj,bd⟩
end
section
open Go.ChangeShapes Go.WideShapes Go.ChangeAt Go.RowKit Go.Joins Go.Deep
mutual
def Rh (B:Nat):TV→Prop
 | .vec _ l _=>l.length≤B∧Cz B l
 |_=>True
def sY (B:Nat):List TV→Prop
 |[]=>True
 |x::r=>Rh B x∧sY B r
def Cz (B:Nat):List (List TV)→Prop
 |[]=>True
 |e::r=>sY B e∧Cz B r
end
theorem BO {B:Nat}:∀{l:List (List TV)},Cz B l→∀e∈l,sY B e
 |[],_,e,h=>by cases h
 |a::l,h,e,he=>by
  rcases mem_cons.1 he with rfl | he
  ·exact h.1
  ·exact BO h.2 e he
theorem Pr {H:Type}(d:DataW H):1≤Rows.uptoBulk d:=by
 cases d with
 |lit l=>cases l<;>simp [Rows.uptoBulk]
 |nil=>simp [Rows.uptoBulk]
 |ptr d=>simp [Rows.uptoBulk]
 |slice elems spare=>simp [Rows.uptoBulk]
 |agg parts=>simp [Rows.uptoBulk]
 |iface t d=>simp [Rows.uptoBulk]
 |map entries=>simp [Rows.uptoBulk]
 |held h=>simp [Rows.uptoBulk]
theorem qD {H:Type}{d:DataW H}:∀{l:List (DataW H)},d∈l→Rows.uptoBulk d≤Rows.uptoBulkAll l
 |[],h=>by cases h
 |x::r,h=>by
  simp only [Rows.uptoBulkAll]
  rcases mem_cons.1 h with rfl | h
  ·omega
  ·have:=qD h;omega
theorem Fy {H:Type}:∀l:List (DataW H),l.length≤Rows.uptoBulkAll l
 |[]=>zero_le _
 |x::r=>by
  have h1:=Pr x
  have h2:=Fy r
  simp only [Rows.uptoBulkAll,length_cons]
  omega
section
variable {H:Type}{enc:TypeId × Value→H}{P:Program}{w:World}{base:Nat}{spare:Nat→Bool}{held:Bool}
theorem wP {f:TypeId→Option (List TypeId)}{m X:Nat}{cs:List Value}
  (hf:∀t ts sub x,f t=some ts→sub.length=ts.length→trod enc P w base spare held m t sub=some x→Rows.uptoBulk x.1≤X→∀(j:Nat) t',ts[j]?=some t'→∃u m' y,sub[j]?=some u∧trod enc P w base spare held m' t' [u]=some y∧Rows.uptoBulk y.1≤X):
  ∀(l:List Field) (off:Nat) (ts:List TypeId),rp P f off l=some ts→cs.length=off+ts.length→(∀fd∈l,∃y,trod enc P w base spare held m fd.type ((cs.drop fd.offset).take (P.cellsOf fd.type))=some y∧Rows.uptoBulk y.1≤X)→
   ∀(j:Nat) t',ts[j]?=some t'→∃u m' y,cs[off+j]?=some u∧trod enc P w base spare held m' t' [u]=some y∧Rows.uptoBulk y.1≤X
 |[],off,ts,h,hl,hy,j,t',hj=>by
  simp only [rp] at h
  injection h with h;subst h
  simp at hj
 |fd::l,off,ts,h,hl,hy,j,t',hj=>by
  simp only [rp] at h
  split at h
  ·rename_i ls hls
   cases hb:(beq fd.offset off&&beq (P.cellsOf fd.type) ls.length) with
   |false=>rw [hb] at h;cases h
   |true=>
    rw [hb] at h
    simp only [and_eq_true] at hb
    have h1:=Nat.eq_of_beq_eq_true hb.1
    have h2:=Nat.eq_of_beq_eq_true hb.2
    simp only [cond_true,Option.map_eq_some_iff] at h
    obtain ⟨ts',h3,rfl⟩:=h
    rw [length_append] at hl
    rcases lt_or_ge j ls.length with hj' | hj'
    ·rw [List.getElem?_append_left hj'] at hj
     obtain ⟨y,hy,hyb⟩:=hy fd (by simp)
     rw [h1,h2] at hy
     obtain ⟨u,m',y',k1,k2⟩:=hf _ _ _ _ hls (by rw [length_take,List.length_drop];omega) hy hyb j t' hj
     refine ⟨u,m',y',?_,k2⟩
     rw [List.getElem?_take,if_pos hj',List.getElem?_drop] at k1
     exact k1
    ·rw [List.getElem?_append_right hj'] at hj
     obtain ⟨u,m',y',k1,k2⟩:=wP hf l (off+ls.length) ts' h3 (by omega) (λfd' h=>hy fd' (by simp [h])) (j-ls.length) t' hj
     refine ⟨u,m',y',?_,k2⟩
     rw [←k1]
     congr 1
     omega
  ·cases h
theorem zF {X:Nat}:∀(n:Nat) (m:Nat) (t:TypeId) (ts:List TypeId) (cs:List Value) (x:DataW H × List MemPlace),rq P n t=some ts→cs.length=ts.length→trod enc P w base spare held m t cs=some x→Rows.uptoBulk x.1≤X→
    ∀(j:Nat) t',ts[j]?=some t'→∃u m' y,cs[j]?=some u∧trod enc P w base spare held m' t' [u]=some y∧Rows.uptoBulk y.1≤X
  | 0,_,_,_,_,_,h,_,_,_=>by simp only [rq] at h;cases h
  |n+1,m,t,ts,cs,x,h,hl,ht,hX=>by
    simp only [rq] at h
    split at h
    · rename_i fs hs
      obtain ⟨xs,m',_,rfl,_,hlen,hg⟩:=DataW.trod_struct hs ht
      have hXs:∀y∈xs,Rows.uptoBulk y.1≤X:=λy hy=>by
        have h1:=qD (List.mem_map_of_mem (f:=λz:DataW H × List MemPlace=>z.1) hy)
        simp only [Rows.uptoBulk] at hX
        omega
      intro j t' hj
      have:=wP (X:=X) (P:=P) (enc:=enc) (w:=w) (base:=base) (spare:=spare) (held:=held) (m:=m') (cs:=cs) (λt ts sub x h1 h2 h3 h4=>zF n m' t ts sub x h1 h2 h3 h4) fs.toList 0 ts h (by omega) ?_ j t' hj
      · simpa using this
      · intro fd hfd
        obtain ⟨i,hi,rfl⟩:=List.mem_iff_getElem.1 hfd
        have hi':i<fs.size:=by simpa using hi
        have h1:=hg i fs[i] (Array.getElem?_eq_getElem hi')
        have hx:i<xs.length:=by omega
        exact ⟨xs[i],by simpa [getElem?_eq_getElem hx] using h1,hXs _ (getElem_mem hx)⟩
    · cases h
    · injection h with h;subst h
      intro j t' hj
      match cs,hl with
      |[u],_=>
        have:j=0:=by
          rcases j with _ | j
          · rfl
          · simp at hj
        subst this
        simp at hj;subst hj
        exact ⟨u,m,x,rfl,ht,hX⟩
end
section
variable {P:Program}{H:Type}{enc:TypeId × Value→H}{w:World}{base:Nat}{held:Bool}
abbrev AF (X:Nat)(enc:TypeId × Value→H)(P:Program)(w:World)(base:Nat)(held:Bool)(t:TypeId)(sh:SH):Prop:=∀u m y,trod enc P w base (λ_=>true) held m t [u]=some y→Rows.uptoBulk y.1≤X→u.oneCell'=true∧∃x,VR (mu w) w x u∧sh.Fits x∧Rh X x
theorem BP {X:Nat}{f:TypeId→Option SH}(hf:∀t sh,f t=some sh→AF X enc P w base held t sh):∀(ts:List TypeId) (ss:List SH) (cs:List Value),zE f ts=some ss→cs.length=ts.length→
  (∀(j:Nat) t',ts[j]?=some t'→∃u m y,cs[j]?=some u∧trod enc P w base (λ_=>true) held m t' [u]=some y∧Rows.uptoBulk y.1≤X)→(∀u∈cs,u.oneCell'=true)∧∃xs,VRs (mu w) w xs cs∧fa ss xs∧sY X xs
 |[],ss,cs,h,hl,_=>by
  simp [zE] at h;subst h
  have:=List.eq_nil_of_length_eq_zero hl
  subst this
  exact ⟨by simp,[],VRs.nil _ _,trivial,trivial⟩
 |t::r,ss,[],h,hl,_=>by simp at hl
 |t::r,ss,c::cs,h,hl,hj=>by
  simp only [zE] at h
  split at h
  ·rename_i s l h1 h2
   injection h with h;subst h
   obtain ⟨u,m,y,k1,k2,k3⟩:=hj 0 t rfl
   simp at k1;subst k1
   obtain ⟨a1,x,a2,a3,a4⟩:=hf t s h1 _ m y k2 k3
   obtain ⟨b1,xs,b2,b3,b4⟩:=BP hf r l cs h2 (by simpa using hl) λj t' ht'=>by
    obtain ⟨u,m,y,k1,k2,k3⟩:=hj (j+1) t' (by simpa using ht')
    exact ⟨u,m,y,by simpa using k1,k2,k3⟩
   refine ⟨λu hu=> ?_,x::xs,VRs.cons a2 b2,⟨a3,b3⟩,a4,b4⟩
   rcases mem_cons.1 hu with rfl | hu
   ·exact a1
   ·exact b1 u hu
  ·cases h
theorem zG {X:Nat}{e:TypeId}{n:Nat}{ts:List TypeId}{f:TypeId→Option SH}{ss:List SH}(hf:∀t sh,f t=some sh→AF X enc P w base held t sh)(hts:rq P n e=some ts)(hss:zE f ts=some ss):
    ∀(rows:List (List Value)),(∀x∈rows,x.length=ts.length∧∃m y,trod enc P w base (λ_=>true) held m e x=some y∧Rows.uptoBulk y.1≤X)→
      (∀u∈rows.flatten,u.oneCell'=true)∧∃l:List (List TV),l.length=rows.length∧VRs (mu w) w l.flatten rows.flatten∧(∀x∈l,fa ss x)∧Cz X l
  |[],_=>⟨by simp,[],rfl,VRs.nil _ _,by simp,trivial⟩
  |r::rows,h=>by
    obtain ⟨h1,m,y,h2,h3⟩:=h r mem_cons_self
    obtain ⟨a1,xs,a2,a3,a4⟩:=BP hf ts ss r hss h1 (zF n m e ts r y hts h1 h2 h3)
    obtain ⟨b1,l,b2,b3,b4,b5⟩:=zG hf hts hss rows λx hx=>h x (mem_cons_of_mem _ hx)
    refine ⟨λu hu=> ?_,xs::l,by simp [b2],by rw [flatten_cons,flatten_cons];exact a2.app b3,λx hx=> ?_,a4,b5⟩
    · rw [flatten_cons] at hu
      rcases mem_append.1 hu with hu | hu
      · exact a1 u hu
      · exact b1 u hu
    · rcases mem_cons.1 hx with rfl | hx
      · exact a3
      · exact b4 x hx
theorem zH {X:Nat}:∀(n:Nat) (t:TypeId) (sh:SH),Fx P n t=some sh→AF X enc P w base held t sh
 | 0,_,_,h=>by simp [Fx] at h
 |n+1,t,sh,h=>by
  intro u m y hy hX
  simp only [Fx] at h
  split at h
  ·rename_i k hk
   injection h with h;subst h
   obtain ⟨z,rfl,wz⟩:=Nu hk hy
   exact ⟨rfl,_,.val _,⟨z,rfl,wz⟩,trivial⟩
  ·rename_i hk
   injection h with h;subst h
   obtain ⟨b,e,_⟩:=DataW.trod_bool hk hy
   injection e with e;subst e
   exact ⟨rfl,_,.val _,⟨b,rfl⟩,trivial⟩
  ·rename_i hk
   injection h with h;subst h
   obtain ⟨s,e,_,hs⟩:=DataW.trod_string hk hy
   injection e with e;subst e
   exact ⟨rfl,_,.val _,⟨s,rfl,hs⟩,trivial⟩
  ·rename_i e ht
   split at h
   ·rename_i ts hts
    cases hb:(beq (P.cellsOf e) ts.length&&ble 1 ts.length) with
    |false=>rw [hb] at h;cases h
    |true=>
     rw [hb] at h
     simp only [and_eq_true] at hb
     have hk:=Nat.eq_of_beq_eq_true hb.1
     have hpos:=Nat.le_of_ble_eq_true hb.2
     simp only [cond_true,Option.map_eq_some_iff] at h
     obtain ⟨ss,hss,rfl⟩:=h
     have hsl:=Hr hss
     rcases open_slice ht hy with ⟨hcs,_⟩ | ⟨a,len,cap,m',n',D,Pl,hcs,hbb,hl,hm,hmm,rfl,hall⟩
     ·injection hcs with hcs;subst hcs
      exact ⟨rfl,.vec ss.length [] .none,.nil trivial,⟨[],rfl,zero_le _,by simp⟩,zero_le _,trivial⟩
     ·injection hcs with hcs;subst hcs
      simp only [if_true] at hmm
      subst hmm
      have hD:(∀i,i<len→Rows.uptoBulk (D i)≤X)∧len≤X:=by
       simp only [Rows.uptoBulk] at hX
       refine ⟨λi hi=> ?_,?_⟩
       ·have:=qD (List.mem_map_of_mem (f:=D) (mem_range.2 hi));omega
       ·have:=Fy ((List.range len).map D);rw [length_map,List.length_range] at this;omega
      rw [hk] at hall
      obtain ⟨b,o,sp⟩:=a
      rcases Nat.eq_zero_or_pos m' with hc0 | hc0
      ·subst hc0
       have:len=0:=by omega
       subst this
       exact ⟨rfl,.vec ss.length [] .none,.odd _ trivial,⟨[],rfl,zero_le _,by simp⟩,zero_le _,trivial⟩
      ·have hsp:sp=none:=by
        obtain ⟨cs',h1,_⟩:=hall 0 hc0
        obtain ⟨_,h3,h4⟩:=World.cells?_some h1
        have h5:=h4 0 hpos
        rw [getElem?_eq_getElem (by omega)] at h5
        cases sp with
        |none=>rfl
        |some s=>simp [World.cell?,Addr.add] at h5;split at h5<;>cases h5
       subst hsp
       obtain ⟨V,hV⟩:=choose_lt (α:=List Value) (p:=λi cs'=>w.cells? base ((⟨b,o,none⟩:Addr).add (i*ts.length)) ts.length=some cs'∧trod enc P w base (λ_=>true) held n' e cs'=some (D i,Pl i)) (λi hi=>hall i hi)
       have each:∀i,i<len→(V i).length=ts.length∧(∀c,c<ts.length→w.cell? ⟨b,o+(i*ts.length+c),none⟩=(V i)[c]?)∧∃y,trod enc P w base (λ_=>true) held n' e (V i)=some y∧Rows.uptoBulk y.1≤X:=λi hi=>by
        obtain ⟨h1,h2⟩:=hV i (by omega)
        obtain ⟨_,h3,h4⟩:=World.cells?_some h1
        refine ⟨h3,λc hc=> ?_,_,h2,hD.1 i hi⟩
        rw [←h4 c hc]
        congr 1
        simp [Addr.add_none,Nat.add_assoc]
       have at1:∀(i:Nat) x,((List.range len).map V)[i]?=some x→i<len∧x=V i:=λi x hx=>by
        rw [getElem?_map] at hx
        rcases lt_or_ge i len with hi | hi
        ·rw [List.getElem?_range hi] at hx
         injection hx with hx
         exact ⟨hi,hx.symm⟩
        ·rw [List.getElem?_eq_none (by simpa using hi)] at hx;cases hx
       have hz:∀x∈(List.range len).map V,x.length=ts.length:=λx hx=>by
        obtain ⟨i,hi,rfl⟩:=mem_map.1 hx
        exact (each i (mem_range.1 hi)).1
       obtain ⟨k1,l,k2,k3,k4,k5⟩:=zG (λt sh h=>zH n t sh h) hts hss ((List.range len).map V) λx hx=>by
        obtain ⟨i,hi,rfl⟩:=mem_map.1 hx
        obtain ⟨e1,_,y,e3,e4⟩:=each i (mem_range.1 hi)
        exact ⟨e1,n',y,e3,e4⟩
       have hlen:l.length=len:=by rw [k2];simp
       refine ⟨rfl,.vec ss.length l .none,?_,⟨l,rfl,by omega,k4⟩,by have:=hD.2;omega,k5⟩
       refine .mk_vec hlen.symm hl hm (λx hx=>BM (k4 x hx)) trivial k3 (λj hj=> ?_) (λj u hu=> ?_) k1
       ·rw [←k3.1] at hj
        obtain ⟨i,c,x,h1,h2,h3,h4⟩:=xI _ hz j _ (getElem?_eq_getElem hj)
        obtain ⟨hi,rfl⟩:=at1 i x h3
        show (w.cell? ⟨b,o+j,none⟩).isSome=true
        rw [h2,(each i hi).2.1 c h1,h4];rfl
       ·obtain ⟨i,c,x,h1,h2,h3,h4⟩:=xI _ hz j u hu
        obtain ⟨hi,rfl⟩:=at1 i x h3
        rw [h2,(each i hi).2.1 c h1,h4]
   ·cases h
  ·cases h
theorem Jw {m:Nat}{t:TypeId}{sh:SH}{r:Reach}{b0:Nat}{v:Value}{d:DataW H}{p:List MemPlace}(hs:Fx P m t=some sh)
  (hv:okWide P w r b0 t v) (h:Trod enc P w base (λ_=>true) held t v d p):∃x,VR (mu w) w x v∧sh.Fits x∧Rh (Rows.uptoBulk d) x:=by
 have hc:v.cells.toList= [v]:=by
  cases m with
  |zero=>simp [Fx] at hs
  |succ m=>
   simp only [Fx] at hs
   unfold okWide at hv
   split at hs
   ·rename_i k hk
    rw [hk] at hv
    simp only [Cell.okWide,hk] at hv
    cases v<;>simp [Cell.ok,hk] at hv<;>rfl
   ·rename_i hk
    rw [hk] at hv
    simp only [Cell.okWide,hk] at hv
    cases v<;>simp [Cell.ok,hk] at hv<;>rfl
   ·rename_i hk
    rw [hk] at hv
    simp only [Cell.okWide,hk] at hv
    cases v<;>simp [Cell.ok,hk] at hv<;>rfl
   ·rename_i e hk
    obtain ⟨qq,n,c,rfl⟩:=okWide_slice hk (by unfold okWide;exact hv)
    rfl
   ·cases hs
 obtain ⟨fuel,hf⟩:=h
 rw [hc] at hf
 exact (zH m t sh hs v fuel _ hf (le_refl _)).2
end
end
section
open Go.RowKit Go.Deep Go.WideShapes Go.ChangeAt
theorem Y0 {B:Nat}{m:MsV}(h:sY B m.cells):m.op.l.length≤B∧m.u.w.length≤B∧m.u.a.p.length≤B∧m.u.n.length≤B∧m.f.d.length≤B:=by
 have h':sY B [.val (.int .i64 m.k),.val (.int .i64 m.op.n),.val (.int .i64 m.op.h),.val (.int .u32 m.op.i),.vec 2 (bM m.op.l) .none,.vec 2 (bm m.u.w) .none,.val (.int .i64 m.u.a.o),.vec 1 (iV m.u.a.p) .none,.val (.int .u32 m.u.a.h),.val (.int .i64 m.u.a.m),.val (.bool m.u.a.hm),.vec 2 (bm m.u.n) .none,.val (.int .i64 m.f.c),.val (.int .i64 m.f.s),.vec 1 (bV m.f.d) .none]:=h
 simp only [sY,Rh,bM,bm,iV,bV,length_map] at h'
 exact ⟨h'.2.2.2.2.1.1,h'.2.2.2.2.2.1.1,h'.2.2.2.2.2.2.2.1.1,h'.2.2.2.2.2.2.2.2.2.2.2.1.1,h'.2.2.2.2.2.2.2.2.2.2.2.2.2.2.1.1⟩
theorem Um {m:MsV}(hm:Pm m){B:Nat}(h:sY B m.cells)(hB:B≤1048576):gG m:=by
 obtain ⟨h1,h2,h3,h4,h5⟩:=Y0 h
 obtain ⟨a1,a2,a3,a4⟩:=hm
 exact ⟨⟨⟨a1,by omega⟩,a2⟩,⟨by omega,by omega,by omega,a3.1,a3.2⟩,⟨a4,by omega⟩⟩
theorem Jx {H:Type}{enc:TypeId × Value→H}{w:World}{b0 base:Nat}{held:Bool}{v:Value}{d:DataW H}{p:List MemPlace}(hB:Rows.uptoBulk d≤1048576)
  (hv:okWide prog w .any b0 25 v) (h:Trod enc prog w base (λ_=>true) held 25 v d p):∃ms:List MsV,VR (mu w) w (.vec 15 (ms.map MsV.cells) .none) v∧∀m∈ms,gG m:=by
 obtain ⟨x,h1,h2,h3⟩:=Jw (m:=9) (sh:=.slice YZ) (by kernel_rfl) hv h
 obtain ⟨l,rfl,_,hl⟩:=iE h2
 obtain ⟨ms,rfl,hms⟩:=v8 MsV.cells (λm=>Pm m∧sY (Rows.uptoBulk d) m.cells) l λe he=>by
  obtain ⟨m,rfl,hm⟩:=Ul (hl e he)
  exact ⟨m,rfl,hm,BO h3.2 _ he⟩
 exact ⟨ms,h1,λm hm=>Um (hms m hm).1 (hms m hm).2 hB⟩
theorem Un (ms:List MsV)(hms:∀m∈ms,gG m)(z:Int)(hz:(Lit.int .u8 z).wf=true)(v:Value)(w:World)(hG:GOk be (mu w) w)(hv:VR (mu w) w (.vec 15 (ms.map MsV.cells) .none) v):
  Calls prog 7 #[v,.int .u8 z] w λe w'=>e=.returned (.bool true)∧Gr w w':=
 VCx.topK (us:= [v,.int .u8 z]) (YW hms (YX hz)) w hG (VRs.cons hv (VRs.cons (.val _) (VRs.nil _ _)))
theorem Fz {W:World}(h:laidMetH prog Rows.frameBackUptoRow.laid W):Lib.TabIs prog W "fairway/message.least" .i64 pv:=by
 have h':laidMet prog [("fairway/message.least",Lib.tabData .i64 pv)] W:=h
 exact Lib.tabIs_of_head yU (by kernel_rfl) Tryz.underlying112 Tryz.underlying3 (by kernel_rfl) (by kernel_rfl) h'
end
section
open Go.ChangeShapes Go.WideShapes Go.ChangeAt Go.RowKit Go.Joins Go.Deep
theorem vc (H:Type)(enc:TypeId × Value→H)(W:World)(base:Nat)(args:Array Value)(ds gs:List (DataW H))(before:List MemPlace)
  (hval0:∀(j:Nat) t v,Tryz.f7.params[j]?=some t→args[j]?=some v→okWide prog W .any base t v)
  (hW:DataW.Whole enc prog Tryz.f7.params.toList Rows.frameBackSpec.vars false W args.toList ds gs before) (hk:Rows.uptoSmall H (ds++gs)=true) (hL:laidMetH prog Rows.frameBackUptoRow.laid W):
  Calls prog 7 args W λe W'=>∃v,e=.returned v∧Rows.frameBackSpec.post enc prog Tryz.f7 false true false false W args v W':=by
 have hval:∀(j:Nat) t v,Tryz.f7.params[j]?=some t→args[j]?=some v→okWide prog W .any base t v:=hval0
 have hW':=hW
 obtain ⟨p,q,hA0,hV,rfl,hfz,hnd⟩:=hW
 have hA:DataW.TrodAll enc prog W 0 (λ_=>true) true Tryz.f7.params.toList args.toList ds p:=hA0
 rw [params7] at hA hval
 obtain ⟨v0,vs0,d0,ds0,p0,q0,hargs,rfl,rfl,h0,r0⟩:=trodAll_cons hA
 obtain ⟨v1,vs1,d1,ds1,p1,q1,rfl,rfl,rfl,h1,r1⟩:=trodAll_cons r0
 obtain ⟨rfl,rfl,rfl⟩:=trodAll_nil r1
 obtain rfl:args= #[v0,v1]:=by cases args;simp_all
 obtain ⟨rfl,rfl⟩:=trodVars_none hV
 have lt0:∀x∈p0,x.block<W.heap.size:=by obtain ⟨m,hm⟩:=h0;exact trod_lt m _ _ _ hm
 have lt1:∀x∈p1,x.block<W.heap.size:=by obtain ⟨m,hm⟩:=h1;exact trod_lt m _ _ _ hm
 have hb:Rows.uptoBulk d0≤1048576:=by
  have:=of_decide_eq_true hk
  have h2:=qD (d:=d0) (l:= [d0,d1]++ []) (by simp)
  omega
 obtain ⟨x0,x0v,x0m⟩:=Jx hb (hval 0 25 v0 rfl rfl) h0
 obtain ⟨x1z,rfl,_,_,x1w⟩:=open_int Tryz.underlying5 (hval 1 5 v1 rfl rfl) h1
 clear hA0 hval0
 refine (Un x0 x0m x1z x1w v0 W (K5 (Fz hL)) x0v).mono λe W' ⟨he,bel⟩=> ?_
 subst he
 exact ⟨_,rfl,_,_,_,[],_,[],hW',trodAll_mk1 (shut_bool Tryz.underlying4 _),(trodAll_cons_mk (Below.trod Bp (by kernel_rfl) (of_decide_eq_true (by kernel_rfl)) h0 bel lt0) (trodAll_cons_mk (Below.trod Bp (by kernel_rfl) (of_decide_eq_true (by kernel_rfl)) h1 bel lt1) trodAll_mk0)),rfl,Below.frame bel _,λh=>by cases h⟩
theorem Uo {H:Type}{enc:TypeId × Value→H}{C:Checked}{os:Os}{f:FuncId}{fn:Func}{s:OpenSpec}{conds:List PathCond}{apart:Bool}{laid:List (String × DataW Unit)}(w0:World)(args:Array Value)(hos:w0.os=os)
  (hsh:(w0.forCall (λ_ _=>0) ⟨#[],args,[]⟩).Shaped C.prog) (hok:Input.okWideB C.prog (w0.forCall (λ_ _=>0) ⟨#[],args,[]⟩) f ⟨#[],args,[]⟩=true)
  (hrow:s.preRow enc C.prog fn conds apart laid (w0.forCall (λ_ _=>0) ⟨#[],args,[]⟩).memory args):
  ∃(w:World) (tape:Tape) (i:Input),w.os=os∧(w.forCall tape i).Shaped C.prog∧i.vars= []∧Input.okWide C.prog (w.forCall tape i) .any w.heap.size f i∧
   s.preRow enc C.prog fn conds apart laid (w.forCall tape i).memory i.args∧({}:Assume).holds C.prog (lone (Frame.enter C.prog f i.args .normal) [] (w.forCall tape i)):=
 ⟨w0,λ_ _=>0,⟨#[],args,[]⟩,hos,hsh,(Input.okWide_of_okWideB (base:=0) hok).1,(Input.okWide_of_okWideB hok).2,hrow,by
  simp only [Assume.holds]
  exact ⟨by simp,by simp,λ_=>Modest.zero,by simp,by simp⟩⟩
theorem sZ (os:Os)(started:os.Started)(H:Type)(enc:TypeId × Value→H)(F:Interp):
  ReturnsInHanded {} checked os 7 .any ((Rows.OpenSpec.upto Rows.frameBackSpec).preRow enc prog Tryz.f7 Rows.frameBackUptoRow.domain false Rows.frameBackUptoRow.laid)
   (((Rows.OpenSpec.upto Rows.frameBackSpec).at F).post enc prog Tryz.f7 false true false false):=by
 refine returnsInHanded_of_row (C:=checked) (s:=Rows.OpenSpec.upto Rows.frameBackSpec) OG started (by kernel_rfl) func7
  (Uo (enc:=enc) (C:=checked) (os:=os) (World.laidAll prog os Rows.frameBackUptoRow.laid) #[.slice none 0 0,.int .u8 0] (World.laidAll_os _ _ _) (World.shaped_of_ZipB (by kernel_rfl) (by kernel_rfl)) (by kernel_rfl)
   (OpenSpec.preRow_of_cond (x:=([.nil,.lit (.int .u8 0)],[],[])) 8 (by kernel_rfl) (by kernel_rfl) (λk hk=>by cases hk;kernel_rfl) (by kernel_rfl) (by rw [MakeChecks.laidMetH_plain _ _ _ (by kernel_rfl)];exact laidMet_laidAll _ (by kernel_rfl) (by kernel_rfl)))) ?_
 intro W base args ds gs before hval hW _ hk _ hL _ _
 exact vc H enc W base args ds gs before hval hW (hk _ rfl) hL
end
section
open Go
theorem iF:pinned.checked=checked:=rfl
theorem jK:checked.prog=prog:=rfl
set_option maxHeartbeats 10000000 in
theorem s1:joinedFacts prog 7 Tryz.f7 Rows.frameBackSpec Rows.frameBackUptoRow=true:=by
 unfold joinedFacts
 repeat' rw [and_eq_true]
 repeat' apply And.intro
 all_goals (as_aux_lemma=>kernel_rfl)
theorem ti:joinedFacts pinned.checked.prog 7 Tryz.f7 Rows.frameBackSpec Rows.frameBackUptoRow=true:=by
 rw [iF,jK];exact s1
theorem ve:Tryz.f7.isInstance pinned.checked.prog Rows.frameBackUptoRow.origin Rows.frameBackUptoRow.targs:=(of_decide_eq_true (by kernel_rfl))
theorem vg:Tryz.f7.isWrapper pinned.checked.prog Rows.frameBackUptoRow.wrapper Rows.frameBackUptoRow.mainSum:=by unfold Func.isWrapper;first | (rw [if_pos (by decide+kernel)];kernel_rfl) | (rw [if_neg (by decide+kernel)];exact ⟨rfl,rfl⟩)
theorem nB:pinned.checked.prog.funcNamed Rows.frameBackUptoRow.func=some 7:=by kernel_rfl
theorem pP:pinned.checked.prog.funcs[(7:Nat)]?=some Tryz.f7:=by
 rw [iF,jK];exact func7
theorem vh (os:Os)(started:os.Started)(H:Type)(enc:TypeId × Value→H)(F:Interp):
  ReturnsInHanded Rows.frameBackUptoRow.assume pinned.checked os 7 .any ((Rows.OpenSpec.upto Rows.frameBackSpec).preRow enc pinned.checked.prog Tryz.f7 Rows.frameBackUptoRow.domain Rows.frameBackUptoRow.apart Rows.frameBackUptoRow.laid)
   (((Rows.OpenSpec.upto Rows.frameBackSpec).at F).post enc pinned.checked.prog Tryz.f7 Rows.frameBackUptoRow.apart Rows.frameBackUptoRow.fresh Rows.frameBackUptoRow.handsOn Rows.frameBackUptoRow.again):=by
 rw [iF,jK]
 exact sZ os started H enc F
theorem frameBackUpto_holds:Rows.FrameBackUptoSaid:=
 OpenClaim.holds_of_cond 7 Tryz.f7 rfl rfl rfl rfl rfl rfl rfl ⟨rfl,rfl,rfl,rfl,rfl⟩ rfl rfl rfl rfl rfl nB pP ti ve vg
  (λos started H enc _ F=>by rw [OpenClaim.pre_eq_preRow];exact vh os started H enc F)
theorem xJ:Rows.frameBackUptoRow.wfByText (Rows.OpenSpec.upto Rows.frameBackSpec)=true:=by kernel_rfl
theorem vi:pinned.checked.prog.mainIs=some (true,("d86007e5bf9bb8b38bd9514c41c46ca1a94da96a85d6c67eb6aa7af7ccdc133f" :String).toList):=by kernel_rfl
theorem vj:false=Rows.frameBackUptoRow.goesBy pinned.checked.prog:=by kernel_rfl
theorem tj:true=pinned.checked.prog.looks []:=by kernel_rfl
theorem tp:([25,5].all λu=> !Tryz.pinned.checked.prog.wantsStandIn u)=true:=by kernel_rfl
theorem xK:Tryz.f7.params= #[25,5]:=params7
theorem frameBackUptoCard_holds:Rows.FrameBackUptoCardSaid:=
 Claim7.holds_tied_plain_at .later [] [.data] true (true, "d86007e5bf9bb8b38bd9514c41c46ca1a94da96a85d6c67eb6aa7af7ccdc133f") true
  frameBackUpto_holds (λ_ h=>by cases h) xJ (λ_ h=>by cases h) frameBackUpto_row_tie rfl ⟨rfl,rfl⟩ vi rfl
  (λf fn hf hfn=>by
   obtain rfl:f=7:=Option.some.inj (hf.symm.trans nB)
   obtain rfl:fn=Tryz.f7:=Option.some.inj (hfn.symm.trans pP)
   refine ⟨tj,λj t ht=> ?_⟩
   rw [xK] at ht
   have hm:t∈ [25,5]:=by simpa using Array.mem_of_getElem? ht
   have:=all_eq_true.1 tp t hm
   simpa using this)
  vj
#print axioms frameBackUptoCard_holds
end
end Go.Proofs.YtogbdjlelkepcaaGreatDoor