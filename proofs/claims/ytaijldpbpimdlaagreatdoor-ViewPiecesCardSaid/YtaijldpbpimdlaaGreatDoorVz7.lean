/-Part 7 of the proof of viewPiecesCard_holds:MsFzYy,MsSmYy,MsSnYy ... No condition. -/
import Derived.Sort.Grow
import Derived.Shelf.GgSortFunc.InsertionK
import Derived.Shelf.SlSortCmp.NoneTotal
import Derived.Ground.SlsfProg
import Derived.Test.YtaijldpbpimdlaaGreatDoorProg
import Derived.Test.YtaijldpbpimdlaaGreatDoorVz1
import Derived.Test.YtaijldpbpimdlaaGreatDoorVz2
import Derived.Test.YtaijldpbpimdlaaGreatDoorVz3
import Derived.Test.YtaijldpbpimdlaaGreatDoorVz4
import Derived.Test.YtaijldpbpimdlaaGreatDoorVz5
import Derived.Test.YtaijldpbpimdlaaGreatDoorVz6
set_option maxRecDepth 100000
namespace Go.Proofs.YtaijldpbpimdlaaGreatDoor
open Go.RowKit
open Go.BinOp (eql neq)
open _root_.Classical (byContradiction)
open _root_.Int (ofNat toNat_natCast)
open Go.IntKind (i64 signed u32 wrap)
open _root_.List (Pairwise append_nil cons_append flatMap_cons flatten flatten_cons foldl_append getElem?_cons_zero getElem?_eq_getElem getElem?_map getElem?_take length length_append length_cons length_map length_nil length_take map_append map_congr_left map_cons map_id map_map map_nil mem_append mem_cons mem_cons_of_mem mem_cons_self mem_map mem_map_of_mem mem_singleton nil_append nodup_cons nodup_nil not_mem_nil pairwise_cons set_cons_succ set_cons_zero take_add_one take_length take_succ_cons take_zero toArray)
open _root_.Nat (add_mul beq beq_refl ble ble_eq_true_of_le eq_of_beq_eq_true le_refl le_trans zero_add zero_le)
open _root_.Option (getD_some map_none map_some)
open _root_.Prod (ext fst snd)
open Go.Sort (grow)
open Go.Proofs.Tryz (func58 prog underlying70)
section
open Go.RowKit
def r9 (w:Bs)(pas:Int):Int:=bif qF w pas then 0 else ofNat (qG w pas+1)
def de (pas:Int)(w:Bs):VO:=iO pas (.vec 1 (ba w pas).2.1 .none) (r9 w pas) (jI w pas) (.vec 1 (iq w pas) .none) ((bN w pas).length:Nat)
def vB (pas:Int)(w:Bs):List TV:= [.val (.bool true),.val (.int .i64 pas),.vec 1 (ba w pas).2.1 .none,.val (.int .i64 (r9 w pas)),.val (.int .i64 (jI w pas)),.vec 1 (iq w pas) .none,.val (.int .i64 ((bN w pas).length:Nat))]
def x8 (w:Bs)(pas:Int):TV:=cH (r9 w pas) (jI w pas) (iq w pas)
def eU (w b:Bs)(pas:Int):List MsgS:=(bN (w++b) pas).drop (bN w pas).length
def x9 (w b:Bs)(pas:Int):TV:=.tup [.vec 15 ((eU w b pas).map MsgS.cells) .none,x8 (w++b) pas]
section
variable {w b:Bs}{pas:Int}
theorem tK (hw:IsB w):IsB (iq w pas):=by
 unfold iq
 split
 ·rename_i p h
  obtain ⟨c,s,d⟩:=p
  exact tJ hw h
 ·exact .nil
theorem Dt (hw:IsB w):IsB (ba w pas).2.1:=(qE pas _ w (le_refl _) hw).1
theorem wq (h:(ba w pas).2.2=none):de pas w=iO pas (.vec 1 (ba w pas).2.1 .none) 0 0 (.vec 1 [] .none) ((ba w pas).1.length:Nat):=by
 simp only [de,r9,qF,jI,iq,bN,h];rfl
theorem wt (hw:IsB w){c:Nat}{s:Int}{d:Bs}(h:(ba w pas).2.2=some (c,s,d)):de pas w=iO pas (.vec 1 [] .none) (ofNat (c+1)) s (.vec 1 d .none) ((ba w pas).1.length:Nat):=by
 have h2:=((qE pas _ w (le_refl _) hw).2.2.2 c s d h).2
 simp only [de,r9,qF,qG,jI,iq,bN,h,h2];rfl
theorem Du (h:(ba w pas).2.2=none):x8 w pas=cH 0 0 []:=by simp only [x8,r9,qF,jI,iq,h];rfl
theorem Dv {c:Nat}{s:Int}{d:Bs}(h:(ba w pas).2.2=some (c,s,d)):x8 w pas=cH (ofNat (c+1)) s d:=by simp only [x8,r9,qF,qG,jI,iq,h];rfl
theorem jE (hw:IsB w)(f g:Nat→Option Nat):(de pas w).ren f g=de pas w:=by
 simp only [de,iO,VO.ren,aw,TV.ren,(tK hw).ren,(Dt hw).ren,Tok.ren]
theorem uU (hw:IsB w)(f g:Nat→Option Nat):(x8 w pas).ren f g=x8 w pas:=by
 simp only [x8,cH,TV.ren,aw,(tK hw).ren,Tok.ren]
theorem PP (hw:IsB (w++b)):gi (eU w b pas):=λM hM=>ji hw M (List.mem_of_mem_drop hM)
theorem PQ (hw:IsB (w++b))(f g:Nat→Option Nat):(x9 w b pas).ren f g=x9 w b pas:=by
 simp only [x9,TV.ren,aw,hU (PP hw),uU hw,Tok.ren]
theorem Nm {l:List MsgS}(h:gi l)(f:Nat→Option Nat):TVle ((xL l).ren f (ap 0)) (.vec 15 (l.map MsgS.cells) .none):=by
 cases l with
 |nil=>exact .nil 15
 |cons M l=>simp only [xL,TV.ren,hU h,Tok.ren];exact .refl _
theorem lY (h:IsB (w++b)):IsB w:=by
 have:=h.take w.length
 rwa [List.take_left] at this
theorem tN (h:IsB (w++b)):IsB b:=by
 have:=h.drop w.length
 rwa [List.drop_left] at this
theorem Sp:bu prog aM (aT [(vz,JH),(ip,JS),(m5,mC)]):=aZ λp hp=>by
 rcases mem_cons.1 hp with rfl | hp;exact R6
 rcases mem_cons.1 hp with rfl | hp;exact So
 obtain rfl:=mem_singleton.1 hp;exact λro ys T K h=>VCx.anyG (pn ro ys T K h)
theorem Sq {V:TV}{S:List TV}{ys:List TV}{T0:VT}(h0:T0.objs.length≤1)(ht:T0.tails.length≤0)(hV:∀f g,aw f g S=S)
  (h:VCx prog aM 0 vA ys T0 λx T'=>(∃(id off n:Nat) (cs:List TV) (es:Bs),T'.objs[0]?=some (.cells cs)∧cs[2]?=some (.row 1 id off n)∧bL T' 1 (.row 1 id off n)=some es∧(0<id∧cs.set 2 (.vec 1 es .none)=S)∧TVle (x.ren (ap 1) (ap 0)) V)∨(∃cs,T'.objs[0]?=some (.cells cs)∧TVleL cs S∧TVle (x.ren (ap 1) (ap 0)) V)):
  VCx prog aM 0 vA ys T0 λx T'=>x=V∧T'=⟨[.cells S],[]⟩:=by
 refine VCx.toLe (Q:=λT'=>T'=⟨[.cells S],[]⟩) (VCx.keepQ 1 0 h0 ht (VCx.cellsLe 0 (VCx.freezeOpt 0 2 1 (h.mono ?_))))
 have fin:∀T':VT,T'.objs[0]?=some (.cells S)→T'.keep 1 0=⟨[.cells S],[]⟩:=λT' h=>by
  obtain ⟨objs,tails⟩:=T'
  cases objs with
  |nil=>simp at h
  |cons o os=>
   simp only [getElem?_cons_zero] at h
   injection h with h
   subst h
   simp only [VT.keep,take_succ_cons,take_zero,map_cons,map_nil,VO.ren,hV]
 have set0:∀(l:List VO) (o:VO),0<l.length→(l.set 0 o)[0]?=some o:=λl o h=>by
  cases l with
  |nil=>simp at h
  |cons _ _=>rfl
 rintro x T' (⟨id,off,n,cs,es,a1,a2,a3,⟨a4,a5⟩,a6⟩ | ⟨cs,a1,a2,a3⟩)
 ·have hl:0<T'.objs.length:=(List.getElem?_eq_some_iff.1 a1).1
  refine .inl ⟨id,off,n,cs,es,a1,a2,a3,S,S,?_,TVleL.refl _,a6,fin _ ?_⟩
  ·rw [a5];exact set0 _ _ (by simpa [VT.kill] using hl)
  ·exact set0 _ _ (by simpa [VT.kill] using hl)
 ·have hl:0<T'.objs.length:=(List.getElem?_eq_some_iff.1 a1).1
  exact .inr ⟨cs,S,a1,a2,a3,fin _ (set0 _ _ hl)⟩
theorem Ss (hw:IsB (w++b))(tok:Tok):VCx prog aM 0 vA [.ptr 0 0,.vec 1 b tok] ⟨[de pas w],[]⟩ λx T'=>x=x9 w b pas∧T'=⟨[de pas (w++b)],[]⟩:=by
 have hw1:=lY hw
 have hb:=tN hw
 have hS:∀f g,aw f g (vB pas (w++b))=vB pas (w++b):=λf g=>by
  simp only [vB,aw,TV.ren,(tK hw).ren,(Dt hw).ren,Tok.ren]
 refine Sq (S:=vB pas (w++b)) (le_refl _) (le_refl _) hS ?_
 cases hf:(ba w pas).2.2 with
 |some p=>
  obtain ⟨c,s,d⟩:=p
  have hd:=tJ hw1 hf
  have hx:=Dr (b:=b) hf
  have hf2:(ba (w++b) pas).2.2=some (c,s,d):=by rw [hx];exact hf
  have hS2:=wt hw hf2
  unfold iO at hS2
  change VO.cells (vB pas (w++b))=_ at hS2
  injection hS2 with hS2
  rw [wt hw1 hf,hS2]
  refine aj ac aa Sp ag (Sk pas s c [] d _ b tok _) ⟨hd,.inr ⟨_,rfl,?_,?_⟩⟩
  ·rw [hx]
   exact TVleL.refl _
  ·unfold x9
   rw [Dv hf2]
   have e:eU w b pas= []:=by unfold eU bN;rw [hx];simp
   rw [e]
   refine .tup ⟨.nil 15,?_,trivial⟩
   simp only [TV.ren,aw,hd.ren,Tok.ren]
   exact .refl _
 |none=>
  have hx:=Dq (b:=b) hf
  have hlen:=(qE pas _ w (le_refl _) hw1).2.1
  have hr:=Dt (pas:=pas) hw1
  rw [wq hf]
  have hsm:=hw.small
  rw [length_append] at hsm
  refine aj ac aa Sp ag (UF pas _ (ba w pas).2.1 b tok _) ⟨⟨hr,hb,ble_eq_true_of_le (by omega)⟩,?_⟩
  have hab:IsB ((ba w pas).2.1++b):=IsB.append hr hb (by rw [length_append];omega)
  have hfl:=zj hab
  rw [length_append] at hfl
  rw [hfl.2]
  have e1:eU w b pas=(ba ((ba w pas).2.1++b) pas).1:=by unfold eU bN;rw [hx];simp
  have e2:bN (w++b) pas=(ba w pas).1++(ba ((ba w pas).2.1++b) pas).1:=by unfold bN;rw [hx]
  refine am (λc0=> ?_) (λc0=> ?_)
  ·have c0:=eq_of_beq_eq_true c0
   have er:(ba w pas).2.1= []:=List.eq_nil_of_length_eq_zero (by omega)
   have eb:b= []:=List.eq_nil_of_length_eq_zero (by omega)
   subst eb
   rw [er] at hx e1 e2
   have e0:ba ([]:Bs) pas=([],[],none):=fu pas (by simp)
   rw [append_nil,e0] at e1
   rw [append_nil,append_nil,e0,append_nil] at e2
   have hS2:=wq hf
   unfold iO at hS2
   change VO.cells (vB pas _)=_ at hS2
   injection hS2 with hS2
   refine ⟨⟨rfl,rfl,rfl,trivial⟩,⟨rfl,rfl⟩,.nil,⟨rfl,rfl,trivial⟩,.inr ⟨_,rfl,?_,?_⟩⟩
   ·rw [append_nil,hS2,er]
    exact ⟨.refl _,.refl _,.nil 1,.refl _,.refl _,.refl _,.refl _,trivial⟩
   ·unfold x9
    rw [e1,append_nil,Du hf]
    exact .tup ⟨.nil 15,.refl _,trivial⟩
  ·refine ⟨⟨rfl,rfl,rfl,trivial⟩,⟨⟨rfl,rfl,rfl,hfl.1,by omega,by omega⟩,⟨rfl,rfl⟩,rfl,rfl,rfl⟩,am (λc1=> ?_) (λc1=> ?_)⟩
   ·rintro ds2 lx tl ⟨⟨h1,h2⟩,rfl,rfl⟩
    have hn2:(ba ((ba w pas).2.1++b) pas).2.2=none:=by
     unfold qF at c1
     cases h:(ba ((ba w pas).2.1++b) pas).2.2 with
     |none=>rfl
     |some p=>rw [h] at c1;cases c1
    have hn3:(ba (w++b) pas).2.2=none:=by rw [hx];exact hn2
    have hS2:=wq hn3
    unfold iO at hS2
    change VO.cells (vB pas _)=_ at hS2
    injection hS2 with hS2
    refine ⟨.nil,⟨rfl,rfl,trivial⟩,.inl ⟨3,0,_,_,(ba (w++b) pas).2.1,rfl,rfl,?_,⟨by decide,?_⟩,?_⟩⟩
    ·rw [show (ba (w++b) pas).2.1=(ba ((ba w pas).2.1++b) pas).2.1 by rw [hx],←h2]
     have q:=h1.1
     have q2:ble (0+JP ((ba w pas).2.1++b) pas) ds2.length=true:=ble_eq_true_of_le q
     simp only [bL,getElem?_cons_zero,List.getElem?_cons_succ,beq_refl,q2,Bool.and_self,cond_true,Nat.zero_mul,Nat.mul_one,an]
    ·rw [hS2]
     have:(((ba w pas).1.length:Nat):Int)+((bN ((ba w pas).2.1++b) pas).length:Nat)=(((ba (w++b) pas).1.length:Nat):Int):=by
      rw [hx];simp only [length_append,bN];omega
     simp only [set_cons_zero,set_cons_succ,this]
    ·unfold x9
     rw [e1,Du hn3]
     exact .tup ⟨Nm (ji hab) _,.refl _,trivial⟩
   ·rintro ds2 lx tl ⟨h1,rfl,rfl⟩
    obtain ⟨c,s,d,hn2⟩:∃(c:Nat) (s:Int) (d:Bs),(ba ((ba w pas).2.1++b) pas).2.2=some (c,s,d):=by
     unfold qF at c1
     cases h:(ba ((ba w pas).2.1++b) pas).2.2 with
     |none=>rw [h] at c1;cases c1
     |some p=>exact ⟨_,_,_,rfl⟩
    have hn3:(ba (w++b) pas).2.2=some (c,s,d):=by rw [hx];exact hn2
    have hd:=tJ hab hn2
    have ec:qG ((ba w pas).2.1++b) pas=c:=by unfold qG;rw [hn2]
    have es:jI ((ba w pas).2.1++b) pas=s:=by unfold jI;rw [hn2]
    have ed:iq ((ba w pas).2.1++b) pas=d:=by unfold iq;rw [hn2]
    have hS2:=wt hw hn3
    unfold iO at hS2
    change VO.cells (vB pas _)=_ at hS2
    injection hS2 with hS2
    rw [ec,es,ed]
    refine ⟨hd,⟨rfl,rfl,trivial⟩,.inr ⟨_,rfl,?_,?_⟩⟩
    ·rw [hS2]
     have:(((ba w pas).1.length:Nat):Int)+((bN ((ba w pas).2.1++b) pas).length:Nat)=(((ba (w++b) pas).1.length:Nat):Int):=by
      rw [hx];simp only [length_append,bN];omega
     rw [this]
     exact ⟨.refl _,.refl _,.nil 1,.refl _,.refl _,.refl _,.refl _,trivial⟩
    ·unfold x9
     rw [e1,Dv hn3]
     refine .tup ⟨Nm (ji hab) _,?_,trivial⟩
     simp only [TV.ren,aw,hd.ren,Tok.ren]
     exact .refl _
end
end
section
open Go.RowKit
abbrev St:=11
def Nn:be:=λ_ ys T K=>match ys with
 |[.agg l,.agg l']=>R7 l l'∧K (.val (.bool true)) T
 |_=>aQ 83 default ys
theorem UH (c s:Int)(d:Bs)(sb:ByteArray)(Q:TV→VT→Prop):ax prog ae bo (bB [(20,.val (.string sb),some λT=>T),(23,.val (.string sb),some λT=>T)]) 300 aU 0 St [cH c s d,cH c s d] aD Q=
 (bif av eql (k6 c c)
 then (bif av eql (k6 s s)
 then (bp prog (λ_=>.none) 0 (Cq c s d c s d) (.convert 22 9 (.tmp 19)) [(19,(aH d))] (.val (.string sb)) (Cq c s d c s d)∧
 (bp prog (λ_=>.none) 0 (Cq c s d c s d) (.convert 22 9 (.tmp 22)) [(22,(aH d))] (.val (.string sb)) (Cq c s d c s d)∧
 Q (mB (av eql (aq (Value.string sb) (Value.string sb)))) (Cq c s d c s d)))
 else Q ak (Cq c s d c s d))
 else Q ak (Cq c s d c s d)):=by kernel_rfl
end
section
open Go.RowKit
theorem PR {d:Bs}(hd:IsB d)(T:VT):gA prog T 22 9 (.vec 1 d .none)=some (.val (.string (Dd d))):=by
 obtain ⟨⟨l,rfl,_⟩,_⟩:=hd
 have hr:bL T 1 (.vec 1 (bV l) .none)=some (bV l):=by simp [bL]
 simp only [gA,Tryz.underlying22,Tryz.underlying9,Tryz.underlying5,hr,xQ,map_some,Dd,getD_some]
theorem ya {ro:Nat}{T:VT}{a:Operand}{l:List (Nat × TV)}{d:Bs}(hd:IsB d)(ha:aA ae l a=.vec 1 d .none):bp prog ae ro T (.convert 22 9 a) l (.val (.string (Dd d))) T:=by
 refine .mk ?_
 have h1:aW prog (.convert 22 9 a) (aA ae l)=none:=by simp [aW,cN,ha,cL]
 have h2:aY prog T (.convert 22 9 a) (aA ae l)=some (.val (.string (Dd d))):=by simp only [aY,ha,PR hd]
 simp only [dZ,h1,h2]
theorem Su (c s:Int){d:Bs}(hd:IsB d):VCx prog ae 0 St [cH c s d,cH c s d] ⟨[],[]⟩ λx T'=>x=.val (.bool true)∧T'=⟨[],[]⟩:=by
 refine VCx.keepQ 0 0 (le_refl _) (le_refl _) (aj ac aa ai ag (UH c s d (Dd d) _) ?_)
 refine bd (Jw _ _) (bd (Jw _ _) ⟨ya hd rfl,ya hd rfl,?_,rfl⟩)
 rw [V6];rfl
theorem Sv {G:aP}(hG:eJ G):∀ro ys T K,Nn ro ys T K→VCx prog G ro St ys T K:=by
 intro ro ys T K hw
 unfold Nn at hw
 split at hw
 ·obtain ⟨⟨rfl,c,s,d,hd,rfl⟩,hk⟩:=hw
  exact VCx.liftPure hG (VCx.anyG (Su c s hd)) (by simp [aw,TV.ren,hd.ren,Tok.ren,cH]) (λ_ _=>rfl) hk
 ·exact hw.elim
end
--bumped 32
section
open Go.RowKit
def Sw (o:VO)(pas:Int):Prop:=o=de pas []
def Sx (ro p:Nat)(o:VO)(b:Bs)(o2:VO)(L:Bs)(c s:Int)(d:Bs):Prop:=∃(pas:Int) (w:Bs),ro≤p∧o=de pas w∧IsB (w++b)∧o2=de pas (w++b)∧L=(eU w b pas).map MsgS.cells∧c=r9 (w++b) pas∧s=jI (w++b) pas∧d=iq (w++b) pas
def Sy (o:VO):be:=λ_ ys T K=>match ys with
 |[.val (.int .i64 pas)]=>Sw o pas∧K (.ptr T.objs.length 0) {T with objs:=T.objs++ [o]}
 |_=>aQ 84 default ys
def No (o2:VO)(L:Bs)(c s:Int)(d:Bs):be:=λro ys T K=>match ys with
 |[.ptr p 0,.vec 1 b _]=>match T.objs[p]? with
  |some o=>Sx ro p o b o2 L c s d∧K (.tup [.vec 15 L .none,.agg [.val (.int .i64 c),.val (.int .i64 s),.vec 1 d .none]]) {T with objs:=T.objs.set p o2}
  |none=>aQ 85 default ys
 |_=>aQ 84 default ys
end
--bumped 32
section
open Go.RowKit
theorem PS (pas:Int):TVleL [.val (.bool true),.val (.int .i64 pas),.val (.slice none 0 0),.val (.int .i64 0),.val (.int .i64 0),.val (.slice none 0 0),.val (.int .i64 0)] (vB pas []):=
 ⟨.refl _,.refl _,.nil 1,.refl _,.refl _,.nil 1,.refl _,trivial⟩
theorem Sz (pas:Int):VCx prog ae 0 Sj [.val (.int .i64 pas)] ⟨[],[]⟩ λx T'=>x=.ptr 0 0∧T'=⟨[de pas []],[]⟩:=by
 refine VCx.cellsLe 0 (aj ac aa ai ag (Sm pas _) ⟨_,vB pas [],rfl,PS pas,rfl,rfl⟩)
theorem SA (o:VO):∀ro ys T K,Sy o ro ys T K→VCx prog aM ro Sj ys T K:=by
 intro ro ys T K hw
 unfold Sy at hw
 split at hw
 ·rename_i pas
  obtain ⟨rfl,hk⟩:=hw
  refine VCx.anyG ((VCx.lift (T:=T) [] [] aV nodup_nil nodup_nil (by simp) (by simp) (by simp) rfl (by rw [VT.give_nil];exact Sz pas) (λ_ _ _=>⟨zero_le _,zero_le _⟩)).mono ?_)
  rintro z T' ⟨x,T'',⟨rfl,rfl⟩,rfl,rfl⟩
  rw [VT.back_nil]
  simp only [map_cons,map_nil,jE .nil,append_nil]
  simpa [TV.ren,aJ] using hk
 ·exact hw.elim
theorem SB (o2:VO)(L:Bs)(c s:Int)(d:Bs):∀ro ys T K,No o2 L c s d ro ys T K→VCx prog aM ro vA ys T K:=by
 intro ro ys T K hw
 unfold No at hw
 split at hw
 ·rename_i p b tok
  split at hw
  ·rename_i o ho
   obtain ⟨⟨pas,w,hro,rfl,hw2,rfl,rfl,rfl,rfl,rfl⟩,hk⟩:=hw
   have hw1:=lY hw2
   refine VCx.at1 (Q:=λx o' l'=>x=x9 w b pas∧o'=de pas (w++b)∧l'= []) bc hro ho rfl (jE hw1 _ _) (ys1:= [.ptr 0 0,.vec 1 b (tok.ren (aL [p]) (aL []))]) ?_ ((Ss hw2 _).mono λx T' ⟨h1,h2⟩=>⟨_,_,h2,h1,rfl,rfl⟩) ?_
   ·simp [aw,TV.ren,aL,(tN hw2).ren]
   ·rintro x o' l' ⟨rfl,rfl,rfl⟩
    rw [PQ hw2,jE hw2]
    simp only [map_nil,append_nil]
    exact hk
  ·exact hw.elim
 ·exact hw.elim
section
variable {w:Bs}{pas:Int}
end
theorem zn {w b:Bs}{pas:Int}:bN (w++b) pas=bN w pas++eU w b pas:=by
 unfold eU bN
 cases hf:(ba w pas).2.2 with
 |none=>rw [Dq hf];simp
 |some p=>rw [Dr hf];simp
theorem PT {w:Bs}{pas:Int}(hw:IsB w):(bN w pas).length≤w.length:=by
 have:=(qE pas _ w (le_refl _) hw).2.1
 unfold bN;omega
section
variable {b:Bs}{zs:List Int}{pas:Int}
end
end
--bumped 32
section
open Go.RowKit
section
variable {P:Program}{G:aP}
theorem AD {t e:TypeId}{x i:Operand}{l:List (Nat × TV)}{inf:TypeInfo}{id off n:Nat}{k:IntKind}{z:Nat}(ht:P.underlying t=some (.slice e))(hi:P.info? e=some inf)
  (hx:aA G l x=.row inf.size id off n) (hz:aA G l i=.val (.int k z)) (h0:0<z) (he:z<n):aS P G (.slice t x (some i) none none) l (.row inf.size id (off+z) (n-z)):=by
 refine ⟨?_⟩
 obtain ⟨z,rfl⟩:∃y,z=y+1:=⟨z-1,by omega⟩
 have h1:ble (z+1) n=true:=ble_eq_true_of_le (by omega)
 have h2:beq (z+1) n=false:=by
  cases hb:beq (z+1) n with
  |false=>rfl
  |true=>have:=eq_of_beq_eq_true hb;omega
 have h3:dS (some (TV.val (.int k ((z+1:Nat):Int))))=some (z+1):=by simp [dS,ek];omega
 simp only [aW,hx,hz,gB,fw,ht,hi,map_some,map_none,h3,nU,beq_refl,h1,Nat.ble_self_eq_true,Bool.and_self,cond_true,h2,cond_false]
theorem JT {t e:TypeId}{x i:Operand}{l:List (Nat × TV)}{inf:TypeInfo}{id off n:Nat}{k:IntKind}{z:Nat}(ht:P.underlying t=some (.slice e))(hi:P.info? e=some inf)
  (hx:aA G l x=.row inf.size id off n) (hz:aA G l i=.val (.int k z)) (he:z≤n):aS P G (.slice t x none (some i) none) l (.row inf.size id off z):=by
 refine ⟨?_⟩
 have h1:ble z n=true:=ble_eq_true_of_le he
 have h3:nU n (some (TV.val (.int k (z:Int))))=some z:=by simp [nU,ek]
 simp only [aW,hx,hz,gB,fw,ht,hi,map_some,map_none,h3,dS,beq_refl,h1,(ble_eq_true_of_le (zero_le z)),Bool.and_self,cond_true]
theorem vC {T:VT}{id off n:Nat}{cs:List TV}(ho:T.objs[id]?=some (.row cs))(h:off+n≤cs.length):dC T (.ptr id off) n=some ((cs.drop off).take n):=by
 simp only [dC,ho]
 rw [if_pos h]
theorem Eh {ro:Nat}{T:VT}{t:TypeId}{d:TypeDesc}{a:Operand}{l:List (Nat × TV)}{inf:TypeInfo}{id off:Nat}{cs ys:List TV}(ht:P.underlying t=some d)(hd:kS d=true)(hi:P.info? t=some inf)
  (ha:aA G l a=.ptr id off) (ho:T.objs[id]?=some (.row cs)) (hle:off+inf.size≤cs.length) (hy:(cs.drop off).take inf.size=ys):bp P G ro T (.load t a) l (.agg ys) T:=by
 refine .mk ?_
 have hc:=vC ho hle
 rw [hy] at hc
 have h1:aW P (.load t a) (aA G l)=none:=by simp [aW,cN]
 have h2:aY P T (.load t a) (aA G l)=some (.agg ys):=by simp [aY,cM,jp,ht,hi,hd,ha,hc]
 simp only [dZ,h1,h2]
theorem Dw {ro:Nat}{T:VT}{t e:TypeId}{x:Operand}{l:List (Nat × TV)}{inf:TypeInfo}{z:Value}{id off n:Nat}{cs:List TV}(ht:P.underlying t=some (.slice e))(hi:P.info? e=some inf)(hz:inf.zero=some z)(hzs:z.cells.size=inf.size)(hz1:z.cells.toList.all Value.oneCell'=true)
  (hx:aA G l x=.row inf.size id off n) (ho:T.objs[id]?=some (.row cs)) (hn:0<n) (hle:(off+n)*inf.size≤cs.length) (hro:ro≤id):
  bp P G ro T (.call ⟨.builtin .clear,#[x],#[t]⟩) l (.val (.tuple #[])) {T with objs:=T.objs.set id (.row (bs cs (off*inf.size) (p9 z n)))}:=by
 refine .mk ?_
 obtain ⟨n,rfl⟩:∃m,n=m+1:=⟨n-1,by omega⟩
 have h1:aW P (.call ⟨.builtin .clear,#[x],#[t]⟩) (aA G l)=none:=by simp [aW,cN]
 have h2:aY P T (.call ⟨.builtin .clear,#[x],#[t]⟩) (aA G l)=none:=by simp [aY,cM,gv]
 have h3:sB P ro T t (.row inf.size id off (n+1))=some (.val (.tuple #[]),{T with objs:=T.objs.set id (.row (bs cs (off*inf.size) (p9 z (n+1))))}):=by
  simp only [sB,ht,hi,ho,hz,hzs,hz1,beq_refl,ble_eq_true_of_le hle,ble_eq_true_of_le hro,Bool.and_self,cond_true]
 simp only [dZ,h1,h2,gR,hx,h3]
end
end
section
open Go.RowKit
def Gd (w w':World):Prop:=Gr w w'∧w.drawn≤w'.drawn
theorem Gd.grow {w w':World}(h:Gd w w'):∃q os,w'=Go.Sort.grow (w.drewN q) os:=by
 obtain ⟨g,hd⟩:=h
 unfold Gr at g
 refine ⟨w'.drawn-w.drawn,w'.heap.extract w.heap.size w'.heap.size,?_⟩
 have hh:w'.heap=w.heap++w'.heap.extract w.heap.size w'.heap.size:=by
  apply Array.ext_getElem?
  intro i
  by_cases hi:i<w.heap.size
  ·rw [Array.getElem?_append_left hi,g.block i hi]
  ·rw [Array.getElem?_append_right (by omega),Array.getElem?_extract]
   by_cases hi2:i<w'.heap.size
   ·rw [if_pos (by simp;omega),show w.heap.size+(i-w.heap.size)=i by omega]
   ·rw [if_neg (by omega),Array.getElem?_eq_none (by omega)]
 have ho:=g.os;have ht:=g.tape;have hp:=g.output
 cases w';cases w
 simp only [Go.Sort.grow,World.drewN] at*
 subst ho ht hp
 congr 1
 omega
theorem Gd.alloc {a w:World}(h:Gd a w)(o:Obj):Gd a (w.alloc o):=⟨h.1.alloc o,h.2⟩
theorem Gd.drew {a w:World}(h:Gd a w):Gd a w.drew:=⟨h.1.drew,le_trans h.2 (Nat.le_succ _)⟩
theorem Gd.refl (w:World):Gd w w:=⟨Gr.refl w,le_refl _⟩
theorem Gd.trans {a b c:World}(h:Gd a b)(k:Gd b c):Gd a c:=⟨h.1.trans k.1,le_trans h.2 k.2⟩
end
section
open Go.RowKit Go.Sort
variable {α:Type}[Inhabited α]
theorem Fi (enc:α→List Value)(k:Nat)(hk:∀x,(enc x).length=k):∀(l:List α) (i c:Nat),i<l.length→c<k→(l.flatMap enc)[i*k+c]?=(enc l[i]!)[c]?
 |[],i,c,h,_=>by simp at h
 |x::r,0,c,_,hc=>by
  rw [flatMap_cons,List.getElem?_append_left (by rw [hk];omega)]
  simp
 |x::r,i+1,c,h,hc=>by
  rw [flatMap_cons,List.getElem?_append_right (by rw [hk,add_mul];omega),hk,show (i+1)*k+c-k=i*k+c by rw [add_mul];omega,
   Fi enc k hk r i c (by simpa using h) hc]
  simp
omit [Inhabited α] in
theorem oK (enc:α→List Value)(k:Nat)(hk:∀x,(enc x).length=k)(l:List α):(l.flatMap enc).length=l.length*k:=by
 induction l with
 |nil=>simp
 |cons x r ih=>rw [flatMap_cons,length_append,hk,ih,length_cons,add_mul];omega
theorem yb (enc:α→List Value)(k:Nat)(hk:∀x,(enc x).length=k)(d:Array α)(t:Nat)(ht:t<d.size*k):(d.toList.flatMap enc)[t]?=some (flatK enc k d)[t]!:=by
 have k0:0<k:=by
  rcases Nat.eq_zero_or_pos k with h | h
  ·subst h;simp at ht
  ·exact h
 have hi:t/k<d.size:=(Nat.div_lt_iff_lt_mul k0).2 ht
 have hc:t%k<k:=Nat.mod_lt _ k0
 have e:t/k*k+t%k=t:=by rw [Nat.mul_comm];exact Nat.div_add_mod t k
 have h:=Fi enc k hk d.toList (t/k) (t%k) (by simpa using hi) hc
 rw [e] at h
 rw [h,get_flatK enc k d t ht]
 have e2:d.toList[t/k]! =d[t/k]!:=by simp [hi]
 rw [e2,getElem!_pos (enc d[t/k]!) (t%k) (by rw [hk];exact hc),getElem?_eq_getElem]
theorem JU (enc:α→List Value)(k:Nat)(hk:∀x,(enc x).length=k){w:World}{base:Nat}{e:TypeId}{v:Value}(d:Array α)(h:w.ownsRow base e k v d.size (d.toList.flatMap enc))(hn:0<d.size):
  ∃g cap,v=.slice (some ⟨g,0,none⟩) d.size cap∧base≤g∧g<w.heap.size∧HoldsK enc k w g 0 d:=by
 obtain ⟨hl,hx⟩:=h
 rcases hx with ⟨_,h0⟩ | ⟨g,cap,cur,rfl,hb,hg,hnc,hcm,hcs,htk⟩
 ·omega
 ·refine ⟨g,cap,rfl,hb,(Array.getElem?_eq_some_iff.1 hg).1,?_⟩
  intro j hj
  rw [size_flatK] at hj
  have h1:=yb enc k hk d j hj
  rw [←htk] at h1
  rw [getElem?_take,if_pos hj] at h1
  constructor
  ·unfold World.cell?
   simp only [hg,zero_add]
   simpa using h1
  ·unfold World.frozen?
   simp [hg]
end
section
open Go.RowKit Go.Sort
section
variable {α:Type}[Inhabited α]
theorem PU (w:World)(os:Array Obj):Gr w (grow w os):=⟨rfl,rfl,rfl,by simp [grow],λk hk=>by simp [grow,Array.getElem?_append,hk]⟩
theorem Mr (enc:α→List Value)(k:Nat)(hk:∀x,(enc x).length=k)(h1:∀x,∀v∈enc x,v.oneCell'=true){l l':List α}(hlen:l'.length=l.length){g:Gh}{T:VT}{w w':World}{id b n:Nat}{os:Array Obj}(r:RW g T w)
  (hid:T.objs[id]?=some (.row ((l.flatMap enc).map .val))) (hb:g.obj id=some b) (hw:w'=sortWorldK enc k w b 0 n l'.toArray os):
  Evo g w g w'∧RW g {T with objs:=T.objs.set id (.row ((l'.flatMap enc).map .val))} w':=by
 obtain ⟨b',q1,⟨us,ty,q2,q3,q4,q5⟩,_⟩:=r.obj id _ hid rfl
 rw [hb] at q1;injection q1 with q1;subst q1
 have hfl:(l.flatMap enc).length=l.length*k:=oK enc k hk l
 have hfl':(l'.flatMap enc).length=l.length*k:=by rw [oK enc k hk,hlen]
 have hF:(flatK enc k l'.toArray).size=l.length*k:=by simp [hlen]
 have hle:l.length*k≤us.length:=by simpa [hfl] using q3
 have hXs:(putCells _root_.id 0 (flatK enc k l'.toArray) us.toArray).size=us.length:=by simp [putCells]
 have hX:∀j,j<us.length→(putCells _root_.id 0 (flatK enc k l'.toArray) us.toArray)[j]?=if j<l.length*k then (l'.flatMap enc)[j]? else us[j]?:=λj hj=>by
  simp only [putCells,Array.getElem?_mapIdx,List.getElem?_toArray,zero_le,true_and,zero_add,Nat.sub_zero,hF]
  rw [getElem?_eq_getElem hj]
  by_cases h:j<l.length*k
  ·simp only [if_pos h,map_some,_root_.id]
   have:=yb enc k hk l'.toArray j (by simpa [hlen] using h)
   simpa using this.symm
  ·simp only [if_neg h,map_some]
 have hw1:(putRowK enc k (Sort.ahead w n) b 0 l'.toArray).heap=w.heap.modify b (onCells (putCells _root_.id 0 (flatK enc k l'.toArray))):=rfl
 have hoth:∀c,c≠b→(putRowK enc k (Sort.ahead w n) b 0 l'.toArray).heap[c]?=w.heap[c]?:=λc hc=>by rw [hw1,Array.getElem?_modify,if_neg (Ne.symm hc)]
 have hbk:(putRowK enc k (Sort.ahead w n) b 0 l'.toArray).heap[b]?=some (.cells (putCells _root_.id 0 (flatK enc k l'.toArray) us.toArray) ty (0,0)):=by
  rw [hw1,Array.getElem?_modify,if_pos rfl,q2];rfl
 have hg:Gr (putRowK enc k (Sort.ahead w n) b 0 l'.toArray) w':=by subst hw;exact PU _ _
 have hos:(putRowK enc k (Sort.ahead w n) b 0 l'.toArray).os=w.os∧(putRowK enc k (Sort.ahead w n) b 0 l'.toArray).tape=w.tape∧(putRowK enc k (Sort.ahead w n) b 0 l'.toArray).output=w.output:=⟨rfl,rfl,rfl⟩
 have hsz:(putRowK enc k (Sort.ahead w n) b 0 l'.toArray).heap.size=w.heap.size:=by rw [hw1];simp
 generalize putRowK enc k (Sort.ahead w n) b 0 l'.toArray=w1 at*
 generalize putCells _root_.id 0 (flatK enc k l'.toArray) us.toArray=X at*
 have e0:VRs g w ((l'.flatMap enc).map TV.val) (X.toList.take ((l'.flatMap enc).map TV.val).length):=by
  have e:X.toList.take ((l'.flatMap enc).map TV.val).length=l'.flatMap enc:=by
   apply List.ext_getElem?
   intro j
   rw [length_map,hfl',getElem?_take]
   by_cases h:j<l.length*k
   ·rw [if_pos h,Array.getElem?_toList,hX j (by omega),if_pos h]
   ·rw [if_neg h,List.getElem?_eq_none (by omega)]
  rw [e]
  exact VRs.vals _ _ _
 have o1:∀v∈X.toList.take ((l'.flatMap enc).map TV.val).length,v.oneCell'=true:=by
  intro v hv
  have e:X.toList.take ((l'.flatMap enc).map TV.val).length=l'.flatMap enc:=by
   apply List.ext_getElem?
   intro j
   rw [length_map,hfl',getElem?_take]
   by_cases h:j<l.length*k
   ·rw [if_pos h,Array.getElem?_toList,hX j (by omega),if_pos h]
   ·rw [if_neg h,List.getElem?_eq_none (by omega)]
  rw [e] at hv
  obtain ⟨x,_,hx⟩:=List.mem_flatMap.1 hv
  exact h1 x _ hx
 obtain ⟨_,e9⟩:=r.setObj hid rfl hb (o':=.gone) (w':=w1) hos hsz hoth (by rw [bG hbk,bG q2,hXs];simp) (λh=>by cases h)
 obtain ⟨r1,e1⟩:=r.setObj hid rfl hb (o':=.row ((l'.flatMap enc).map .val)) (w':=w1) hos hsz hoth (by rw [bG hbk,bG q2,hXs];simp)
  (λ_=>⟨X.toList,ty,by simpa using hbk,by simp [hfl',hXs];exact hle,e0.mono e9,o1⟩)
 exact ⟨e1.trans (Evo.of_gr r1 hg),r1.gr hg⟩
end
end
section
open Go.RowKit
section
variable {P:Program}{G:aP}
end
end
section
open Go.RowKit
section
variable {P:Program}{G:aP}
end
end
section
open Go.RowKit
def Hz (since:Nat)(seen:List Nat)(es:List (Value × TV × Nat)):Prop:=cQ since seen es= []
def HA (k:Value)(v:TV)(s since:Nat)(seen:List Nat)(es:List (Value × TV × Nat)):Prop:=(k,v,s)∈cQ since seen es++jy since seen es
def Np (it a b:Nat):bW:=λ_ ro σ T D K=>match σ.getD it .dead with
 | .ptr i 0=>match T.objs[i]? with
  |some (.iter (.map m) since seen stepped)=>match T.objs[m]? with
   |some (.map _ _ es ck)=>(ble ro i=true∧j8 seen stepped es=false∧ble (a+1) σ.length=true)∧
    (Hz since seen es→K .normal ((σ.set a (.tup [.val (.bool false)])).set b (.val (.bool false))) T D)∧
    ∀(k:Value) (v:TV) (s:Nat),HA k v s since seen es→K .normal ((σ.set a (.tup [.val (.bool true),.val k,v])).set b (.val (.bool true))) (T.setIter i (.map m) since (seen++ [s]) ck) D
   |_=>False
  |_=>False
 |_=>False
def SC (it a b:Nat):Code→Bool
 | .region _ ops false=>match ops.toList with
  |[⟨some a1,.next (.tmp i1) false,_,_,_,none⟩,⟨some b1,.extract (.tmp a2) 0,_,_,_,none⟩]=>beq a1 a&&(beq i1 it&&(beq b1 b&&beq a2 a))
  |_=>false
 |_=>false
section
variable {P:Program}{G:aP}
theorem Fj {α:Type}{k:α→Prop}:∀{l:List α},(∀a∈l,k a)→BS k l
 |[],_=>trivial
 |[a],h=>h a mem_cons_self
 |a::b::l,h=>⟨h a mem_cons_self,Fj λc hc=>h c (mem_cons_of_mem _ hc)⟩
theorem JV:fH P G λ_ _ _ _ _=>False:=by
 intro ro f xs T K h
 exact h.elim
theorem Ms:gF P G λ_ _ _ _ _=>False:=by
 intro ro id xs T K h
 exact h.elim
theorem PV {T:VT}{ro a:Nat}{ev:Operand→TV}{x:TV}{l:List TV}(h:ev (.tmp a)=.tup (x::l)):dZ P ro T (.extract (.tmp a) 0) ev=some (x,T):=by
 unfold dZ
 have e:aW P (.extract (.tmp a) 0) ev=some x:=by
  simp [aW,cN,h]
 rw [e]
theorem SD {it a b:Nat}{c:Code}(hc:SC it a b c=true):∀rd ro σ T D K,Np it a b rd ro σ T D K→VWx P G rd ro c σ T D K:=by
 intro rd ro σ T D K h
 unfold SC at hc
 split at hc
 ·rename_i id ops
  split at hc
  ·rename_i a1 i1 ty1 p1 af1 b1 a2 ty2 p2 af2 hops
   simp only [Bool.and_eq_true] at hc
   obtain ⟨c1,c2,c3,c4⟩:=hc
   obtain rfl:=eq_of_beq_eq_true c1
   obtain rfl:=eq_of_beq_eq_true c2
   obtain rfl:=eq_of_beq_eq_true c3
   obtain rfl:=eq_of_beq_eq_true c4
   refine q8 (F:=aR) JV Ms ?_
   rw [hops]
   unfold Np at h
   split at h
   ·rename_i i hi
    split at h
    ·rename_i m since seen stepped hio
     split at h
     ·rename_i sh lk es ck hm
      obtain ⟨⟨h1,h2,h3⟩,hE,hK⟩:=h
      have hlt:=Nat.le_of_ble_eq_true h3
      have hx:sD T (.ptr i 0)=some (i,(bif (cQ since seen es).isEmpty then [(.tup [.val (.bool false)],T)] else [])++
        ((cQ since seen es)++(jy since seen es)).map λe=>(.tup [.val (.bool true),.val e.1,e.2.1],T.setIter i (.map m) since (seen++ [e.2.2]) ck)):=by
       simp only [sD,hio,hm,h2,cond_false]
      have go:∀(x:TV) (l:List TV) (T':VT),K .normal ((σ.set a2 (.tup (x::l))).set b1 x) T' D→qX P G aR (λ_ _ _ _ _=>False) (λ_ _ _ _ _=>False) ro ops [⟨some b1,.extract (.tmp a2) 0,ty2,p2,af2,none⟩] (bv σ (some a2) (.tup (x::l))) T' λσ T=>K .normal σ T D:=by
       intro x l T' hk
       have he:=PV (P:=P) (T:=T') (ro:=ro) (a:=a2) (ev:=bb G (σ.set a2 (.tup (x::l)))) (x:=x) (l:=l) (by simp only [bb,List.getD_eq_getElem?_getD];rw [List.getElem?_set_self (by omega)];rfl)
       simp only [qX,eX,bP,cond_true,i6,BY,aR,BX,bv,he]
       exact hk
      show eX ops _ σ _
      simp only [eX,bP,cond_true,i6,BY,aR,BX,bb,hi,hx,h1]
      refine Fj λp hp=> ?_
      rcases mem_append.1 hp with hp | hp
      ·cases he:(cQ since seen es).isEmpty with
       |false=>rw [he] at hp;cases hp
       |true=>
        rw [he] at hp
        obtain rfl:=mem_singleton.1 hp
        exact go _ _ _ (hE (List.isEmpty_iff.1 he))
      ·obtain ⟨⟨k,v,s⟩,hs,rfl⟩:=mem_map.1 hp
       exact go _ _ _ (hK k v s hs)
     ·exact h.elim
    ·exact h.elim
   ·exact h.elim
  ·cases hc
 ·cases hc
end
end
section
open Go.RowKit
theorem JW {j len:Nat}(h:j<len)(hlen:len≤9223372036854775807):wrap i64 (((j:Nat):Int)+(1:Int))=((j+1:Nat):Int):=by
 simp only [wrap,IntKind.bits,signed];simp;omega
end
set_option maxRecDepth 100000
--Po1
--Wire
section
open Go.RowKit
end
--MsA
section
open Go.RowKit
section
variable {x i m:Operand}{l:List (Nat × TV)}{b:Bs}{tok:Tok}{k k':IntKind}{z z':Int}{e:List TV}{n n':Nat}
end
end
--MsB
section
open Go.RowKit
end
--MbA
section
open Go.RowKit
end
--MsP
section
open Go.RowKit
end
--MsQ
section
open Go.RowKit
end
--MsR
section
open Go.RowKit
end
--MsS
section
open Go.RowKit
end
--MsX
section
open Go.RowKit
def m1 (B:Bs):Int:=Vl (1:Nat) B 0 0
def m2 (B:Bs):Int:=Vl (2:Nat) B (m1 B) (g1 B)
end
--MsSa
section
open Go.RowKit
end
--MsPt
section
open Go.RowKit
end
--MsPq
section
open Go.RowKit
end
--MsTk
section
open Go.RowKit
end
--MsTl
section
open Go.RowKit
end
--MsRb
section
open Go.RowKit
end
--MsRc
section
open Go.RowKit
end
--MsRe
section
open Go.RowKit
end
--MsUd
section
open Go.RowKit
end
--MsHc
section
open Go.RowKit
end
--MsWf
section
open Go.RowKit
def UI (x:Bs):Prop:=∃l:List Int,x=iV l∧l.length≤9223372036854775807
end
--MbB
section
open Go.RowKit
abbrev vD:=74
def Fk:List Nat:= [0,1,4,12,13]
def AE (s:Nat)(l m:Bs)(j:Int):List TV:= [.vec s l .none,.vec s m .none,.val (.bool false),.val (.int .i64 l.length),.val (.int .i64 j)]
def Wj (s:Nat)(l m:Bs)(ok:Bool)(K:KX):Prop:=(@Eq Nat l.length m.length)∧∀z:Int,bif ok then K .normal (aI 26 Fk (AE s l m l.length)) ⟨[],[]⟩ [] else K .ret (aI 26 Fk (AE s l m z)) ⟨[],[]⟩ []
def SE (s:Nat)(l m:Bs)(ok:Bool)(c0:Code):Nat→Option (bW × Code):=bX [(0,gn 26 Fk [] (AE s l m 0) ⟨[],[]⟩ (Wj s l m ok),c0)]
theorem Nq (l m:Bs)(ok:Bool)(Q:TV→VT→Prop):ax prog ae bo aR 300 (SE 1 l m ok (aE prog vD 0)) 0 vD [.vec 1 l .none,.vec 1 m .none] aD Q=
 (bif av neq (k6 (↑(length l):Int) (↑(length m):Int))
 then Q ak aD
 else ((aE prog vD (0:Nat)=aE prog vD (0:Nat))∧
 (((@Eq (Option Nat) .none .none)∧
 ((@Eq (Nat) 0 0)∧
 ((@Eq (List Nat) [] [])∧
 (True  ∧
 ((@Eq (VT) aD aD)∧
 ((@Eq (Bool) true true)∧
 (@Eq (List TV) [(aH l),(aH m),ak,(ah (↑(length l):Int)),aB] [(aH l),(aH m),ak,(ah (↑(length l):Int)),aB])))))))∧
 ((@Eq (Nat) (length l) (length m))∧
 (∀z:Int,(bif ok
 then Q aF aD
 else Q ak aD)))))):=by kernel_rfl
theorem JX (l m:Bs)(x y:Int)(j:Nat)(Q:Exit→List TV→VT→List Nat→Nat→Prop):vx prog ae bo (bB [(18,.elt [.val (.int .i64 x)],none),(22,.elt [.val (.int .i64 y)],none)]) 300 aU none 0 (cC prog vD 0) (aI 26 Fk (AE 1 l m j)) aD [] (dw Fk Q)=
 (bif decide ((↑j:Int)<(↑(length l):Int))
 then (aS prog (λ_=>.none) (.indexAddr 71 (.tmp 16) (.tmp 17)) [(16,(aH l)),(17,(ah (↑j:Int)))] (.elt [(ah x)])∧
 (aS prog (λ_=>.none) (.indexAddr 71 (.tmp 20) (.tmp 21)) [(20,(aH m)),(21,(ah (↑j:Int)))] (.elt [(ah y)])∧
 (bif av neq (k6 x y)
 then Q .ret (Qn l m (↑(length l):Int) (↑j:Int)) aD [] 26
 else Q .normal (Qn l m (↑(length l):Int) (wrap i64 ((↑j:Int)+(1:Int)))) aD [] 26)))
 else Q (.exit 0) (Qn l m (↑(length l):Int) (↑j:Int)) aD [] 26):=by kernel_rfl
end
--MbC
section
open Go.RowKit
end
--MbD
section
open Go.RowKit
theorem Fl {l m:List Int}(hn:l.length≤9223372036854775807):dy prog ae (SE 1 (iV l) (iV m) (decide (l=m)) (aE prog vD 0)):=bO λp hp=>by
 obtain rfl:=mem_singleton.1 hp
 have hL:∀l:List Int,(iV l).length=l.length:=λl=>length_map _
 refine cd λK hK=> ?_
 obtain ⟨hlm,hK⟩:=hK
 rw [hL,hL] at hlm
 refine dM (f:=vD) (id:=0) (by kernel_rfl) 26 Fk (λj:Nat=>l.length-j) (λj:Nat=>AE 1 (iV l) (iV m) j) (λ_=>⟨[],[]⟩) (λj=>j≤l.length∧l.take j=m.take j) 0 0 (λ_ _=>⟨le_refl _,le_refl _⟩)
  (λe vs T=>T=⟨[],[]⟩∧((e=.normal∧l=m∧vs=AE 1 (iV l) (iV m) (iV l).length)∨(e=.ret∧l≠m∧∃z:Int,vs=AE 1 (iV l) (iV m) z))) (λj hj=> ?_) 0 ⟨zero_le _,rfl⟩ K ?_
 ·obtain ⟨hj,hall⟩:=hj
  by_cases hlt:j<l.length
  ·have hlt2:j<m.length:=by omega
   have hat:(iV l)[((j:Nat):Int).toNat]?=some (iT l[j]):=by rw [toNat_natCast];show (l.map _)[j]?=_;rw [getElem?_map,getElem?_eq_getElem hlt];rfl
   have hat2:(iV m)[((j:Nat):Int).toNat]?=some (iT m[j]):=by rw [toNat_natCast];show (m.map _)[j]?=_;rw [getElem?_map,getElem?_eq_getElem hlt2];rfl
   refine bU ac aa ai ag (JX (iV l) (iV m) l[j] m[j] j _) ?_
   refine bd (decide_eq_true (by rw [hL];omega)) ⟨oy rfl rfl (by omega) hat,oy rfl rfl (by omega) hat2,?_⟩
   rw [dJ]
   refine am (λc1=> ?_) (λc1=> ?_)
   ·refine ⟨rfl,rfl,rfl,.inr ⟨rfl,λh=> ?_,j,rfl⟩⟩
    subst h
    simp at c1
   ·refine ⟨rfl,rfl,j+1,⟨hlt,?_⟩,by show l.length-(j+1)<l.length-j;omega,.inl ⟨rfl,by rw [JW hlt hn];rfl⟩⟩
    have he:l[j]=m[j]:=by simpa using c1
    rw [take_add_one,getElem?_eq_getElem hlt,take_add_one,getElem?_eq_getElem hlt2,hall,he]
  ·have hj2:j=l.length:=by omega
   subst hj2
   rw [take_length,hlm,take_length] at hall
   refine bU ac aa ai ag (JX (iV l) (iV m) 0 0 l.length _) ?_
   exact bg (decide_eq_false (by rw [hL];omega)) ⟨rfl,rfl,rfl,.inl ⟨rfl,hall,by simp only [AE,hL]⟩⟩
 ·rintro e vs T ⟨rfl,⟨rfl,h1,rfl⟩ | ⟨rfl,h1,z,rfl⟩⟩
  ·have:=hK 0;rw [decide_eq_true h1] at this;exact this
  ·have:=hK z;rw [decide_eq_false h1] at this;exact this
theorem SF {l m:List Int}(hn:l.length≤9223372036854775807):VCx prog ae 0 vD [.vec 1 (iV l) .none,.vec 1 (iV m) .none] ⟨[],[]⟩ λx T'=>x=.val (.bool (decide (l=m)))∧T'=⟨[],[]⟩:=by
 have hL:∀l:List Int,(iV l).length=l.length:=λl=>length_map _
 refine VCx.keepQ 0 0 (le_refl _) (le_refl _) ?_
 by_cases hlm:l.length=m.length
 ·refine aj ac aa ai (Fl hn) (Nq (iV l) (iV m) _ _) ?_
  rw [dJ,hL,hL]
  refine bg (by rw [decide_eq_true (by omega)];rfl) ⟨rfl,⟨rfl,rfl,rfl,trivial,rfl,rfl,by rw [←hL l]⟩,hlm,λz=> ?_⟩
  by_cases h:l=m
  ·rw [decide_eq_true h];exact ⟨rfl,rfl⟩
  ·rw [decide_eq_false h];exact ⟨rfl,rfl⟩
 ·have hne:l≠m:=λh=>hlm (by rw [h])
  refine aj ac aa ai (Fl hn) (Nq (iV l) (iV m) _ _) ?_
  rw [dJ,hL,hL]
  exact bd (by rw [decide_eq_false (by omega)];rfl) ⟨by rw [decide_eq_false hne];rfl,rfl⟩
end
--MbE
section
open Go.RowKit
def Nr (b:Bs):List Int:=b.map gU
def Fm (a b:Bs):Bool:=decide (Nr a=Nr b)
def HB (b:Bs):Prop:=UI b
structure AtV where
 o:Int
 p:List Int
 h:Int
 m:Int
 hm:Bool
 deriving DecidableEq
def AtV.cells (a:AtV):List TV:= [.val (.int .i64 a.o),.vec 1 (iV a.p) .none,.val (.int .u32 a.h),.val (.int .i64 a.m),.val (.bool a.hm)]
abbrev Ns:=55
def SG:be:=λ_ ys T K=>match ys with
 |[.vec 1 l _,.vec 1 m _]=>(HB l∧HB m)∧K (.val (.bool (Fm l m))) T
 |_=>aQ 84 default ys
theorem UJ (o h m o2 h2 m2:Int)(hm hm2:Bool)(p p2:Bs)(Q:TV→VT→Prop):ax prog ae (aT [(vD,SG)]) (bB [(999998,.dead,none)]) 300 aU 0 Ns [.agg [.val (.int .i64 o),.vec 1 p .none,.val (.int .u32 h),.val (.int .i64 m),.val (.bool hm)],.agg [.val (.int .i64 o2),.vec 1 p2 .none,.val (.int .u32 h2),.val (.int .i64 m2),.val (.bool hm2)]] aD Q=
 (bif av eql (k6 o o2)
 then (bif av eql (aq (Value.int u32 h) (Value.int u32 h2))
 then (bif av eql (k6 m m2)
 then (bif av eql (aq (Value.bool hm) (Value.bool hm2))
 then ((HB (p)∧
 HB (p2))∧
 Q (mB (Fm p p2)) (IB o p h m hm o2 p2 h2 m2 hm2))
 else Q ak (IB o p h m hm o2 p2 h2 m2 hm2))
 else Q ak (IB o p h m hm o2 p2 h2 m2 hm2))
 else Q ak (IB o p h m hm o2 p2 h2 m2 hm2))
 else Q ak (IB o p h m hm o2 p2 h2 m2 hm2)):=by kernel_rfl
end
--MbF
section
open Go.RowKit
theorem yc (l:List Int):Nr (iV l)=l:=by
 unfold Nr iV
 rw [map_map]
 exact (map_congr_left λz _=>rfl).trans (map_id _)
end
--MbG
section
open Go.RowKit
theorem AtV.ren (a:AtV)(f g:Nat→Option Nat):aw f g a.cells=a.cells:=by
 simp only [AtV.cells,aw,TV.ren,dW,Tok.ren]
theorem SH (a b:AtV)(hn:a.p.length≤9223372036854775807)(hn2:b.p.length≤9223372036854775807):VCx prog ae 0 Ns [.agg a.cells,.agg b.cells] ⟨[],[]⟩ λx T'=>x=.val (.bool (decide (a=b)))∧T'=⟨[],[]⟩:=by
 have hS:bu prog ae (aT [(vD,SG)]):=aZ λp hp=>by
  obtain rfl:=mem_singleton.1 hp
  intro ro ys T K hw
  simp only at hw
  unfold SG at hw
  split at hw
  ·obtain ⟨⟨⟨l,rfl,hn⟩,⟨m,rfl,hn2⟩⟩,hk⟩:=hw
   have e:Fm (iV l) (iV m)=decide (l=m):=by unfold Fm;rw [yc,yc]
   rw [e] at hk
   exact VCx.loosePure aV (SF hn) (by simp [ea]) (by simp [aw,TV.ren,dW,Tok.ren]) (λ_ _=>rfl) hk
  ·exact hw.elim
 have e:Fm (iV a.p) (iV b.p)=decide (a.p=b.p):=by unfold Fm;rw [yc,yc]
 refine VCx.keepQ 0 0 (le_refl _) (le_refl _) (aj ac aa hS ag (UJ a.o a.h a.m b.o b.h b.m a.hm b.hm (iV a.p) (iV b.p) _) ?_)
 have fin:∀(q:Bool) (T:VT),decide (a=b)=q→((TV.val (.bool q)).ren (ap 0) (ap 0)=.val (.bool (decide (a=b)))∧T.keep 0 0=⟨[],[]⟩):=λb T h=>⟨by rw [h];rfl,by simp [VT.keep]⟩
 have ne:∀{X:Prop},(a=b→X)→¬X→decide (a=b)=false:=λh k=>decide_eq_false λc=>k (h c)
 rw [rZ,rZ,rZ,e]
 refine am (λc1=>am (λc2=>am (λc3=>am (λc4=> ?_) (λc4=> ?_)) (λc3=> ?_)) (λc2=> ?_)) (λc1=> ?_)
 ·refine ⟨⟨⟨_,rfl,hn⟩,⟨_,rfl,hn2⟩⟩,fin _ _ ?_⟩
  have d1:=of_decide_eq_true c1
  have d2:=of_decide_eq_true c2
  have d3:=of_decide_eq_true c3
  have d4:a.hm=b.hm:=by simpa [av,aq,cl] using c4
  refine decide_eq_decide.2 ⟨λh=>by rw [h],λhp=> ?_⟩
  obtain ⟨o,p,h,m,hm⟩:=a
  obtain ⟨o2,p2,h2,m2,hm2⟩:=b
  simp only [AtV.mk.injEq]
  exact ⟨d1,hp,d2,d3,d4⟩
 ·exact fin false _ (ne (X:=a.hm=b.hm) (λh=>by rw [h]) (λh=>by rw [h] at c4;simp [av,aq,cl] at c4))
 ·exact fin false _ (ne (X:=a.m=b.m) (λh=>by rw [h]) (of_decide_eq_false c3))
 ·exact fin false _ (ne (X:=a.h=b.h) (λh=>by rw [h]) (of_decide_eq_false c2))
 ·exact fin false _ (ne (X:=a.o=b.o) (λh=>by rw [h]) (of_decide_eq_false c1))
end
--MsFa
section
open Go.RowKit
end
--MsFb
section
open Go.RowKit
end
--MbH
section
open Go.RowKit
end
--MbI
section
open Go.RowKit
end
--MbJ
section
open Go.RowKit
end
--bumped 32
end Go.Proofs.YtaijldpbpimdlaaGreatDoor
namespace Go.Proofs
open Go.RowKit
open Go.BinOp (eql neq)
open _root_.Classical (byContradiction)
open _root_.Int (ofNat toNat_natCast)
open Go.IntKind (i64 signed u32 wrap)
open _root_.List (Pairwise append_nil cons_append flatMap_cons flatten flatten_cons foldl_append getElem?_cons_zero getElem?_eq_getElem getElem?_map getElem?_take length length_append length_cons length_map length_nil length_take map_append map_congr_left map_cons map_id map_map map_nil mem_append mem_cons mem_cons_of_mem mem_cons_self mem_map mem_map_of_mem mem_singleton nil_append nodup_cons nodup_nil not_mem_nil pairwise_cons set_cons_succ set_cons_zero take_add_one take_length take_succ_cons take_zero toArray)
open _root_.Nat (add_mul beq beq_refl ble ble_eq_true_of_le eq_of_beq_eq_true le_refl le_trans zero_add zero_le)
open _root_.Option (getD_some map_none map_some)
open _root_.Prod (ext fst snd)
open Go.Sort (grow)
open Go.Proofs.Tryz (func58 prog underlying70)
open Go.Shelf
def Tryz.sortPx_ren:Go.Shelf.Ren:=⟨λ| 6=>57 | 15=>76 | 14=>75 | 28=>110 | 29=>111 | 20=>102 | 21=>103 | 22=>104 | 23=>105 | 24=>106 | 25=>107 | 26=>108 | 27=>109 | 46=>128 | 47=>129 | 48=>130 | 49=>131 | 50=>132 | 57=>143 | n=>n,λ| 22=>70 | 24=>94 | 25=>132 | 3=>3 | 39=>157 | 0=>0 | 53=>66 | 55=>150 | 4=>4 | 46=>186 | 45=>185 | 50=>135 | 5=>5 | 9=>9 | 66=>214 | 70=>128 | 76=>235 | 77=>236 | n=>n,λ| n=>n⟩
theorem Tryz.sortPx:Go.Proofs.SlLaysF0.n6 prog Tryz.sortPx_ren:={
 mixed:=by kernel_rfl
 f6:=⟨Tryz.f57.name,by decide,Tryz.func57.trans (congrArg some (by kernel_rfl))⟩
 f14:=⟨Tryz.f75.name,by decide,Tryz.func75.trans (congrArg some (by kernel_rfl))⟩
 f15:=Tryz.func76.trans (congrArg some (by kernel_rfl))
 f20:=⟨Tryz.f102.name,by decide,Tryz.func102.trans (congrArg some (by kernel_rfl))⟩
 f21:=⟨Tryz.f103.name,by decide,Tryz.func103.trans (congrArg some (by kernel_rfl))⟩
 f22:=⟨Tryz.f104.name,by decide,Tryz.func104.trans (congrArg some (by kernel_rfl))⟩
 f23:=⟨Tryz.f105.name,by decide,Tryz.func105.trans (congrArg some (by kernel_rfl))⟩
 f24:=⟨Tryz.f106.name,by decide,Tryz.func106.trans (congrArg some (by kernel_rfl))⟩
 f25:=⟨Tryz.f107.name,by decide,Tryz.func107.trans (congrArg some (by kernel_rfl))⟩
 f26:=⟨Tryz.f108.name,by decide,Tryz.func108.trans (congrArg some (by kernel_rfl))⟩
 f27:=⟨Tryz.f109.name,by decide,Tryz.func109.trans (congrArg some (by kernel_rfl))⟩
 f28:=Tryz.func110.trans (congrArg some (by kernel_rfl))
 f29:=Tryz.func111.trans (congrArg some (by kernel_rfl))
 f46:=⟨Tryz.f128.name,by decide,Tryz.func128.trans (congrArg some (by kernel_rfl))⟩
 f47:=Tryz.func129.trans (congrArg some (by kernel_rfl))
 f48:=Tryz.func130.trans (congrArg some (by kernel_rfl))
 f49:=⟨Tryz.f131.name,by decide,Tryz.func131.trans (congrArg some (by kernel_rfl))⟩
 f50:=⟨Tryz.f132.name,by decide,Tryz.func132.trans (congrArg some (by kernel_rfl))⟩
 f57:=⟨Tryz.f143.name,by decide,Tryz.func143.trans (congrArg some (by kernel_rfl))⟩
 t0:=Tryz.underlying0
 a0:=Tryz.isAgg0
 z0:=Tryz.sizeOf0
 v0:=Tryz.zeroValue0
 t3:=Tryz.underlying3
 a3:=Tryz.isAgg3
 z3:=Tryz.sizeOf3
 v3:=Tryz.zeroValue3
 t4:=Tryz.underlying4
 a4:=Tryz.isAgg4
 z4:=Tryz.sizeOf4
 v4:=Tryz.zeroValue4
 t5:=Tryz.underlying5
 a5:=Tryz.isAgg5
 z5:=Tryz.sizeOf5
 v5:=Tryz.zeroValue5
 t9:=Tryz.underlying9
 a9:=Tryz.isAgg9
 z9:=Tryz.sizeOf9
 v9:=Tryz.zeroValue9
 t22:=underlying70
 a22:=Tryz.isAgg70
 z22:=Tryz.sizeOf70
 v22:=Tryz.zeroValue70
 t25:=Tryz.underlying132
 a25:=Tryz.isAgg132
 z25:=Tryz.sizeOf132
 v25:=Tryz.zeroValue132
 t39:=Tryz.underlying157
 a39:=Tryz.isAgg157
 z39:=Tryz.sizeOf157
 v39:=Tryz.zeroValue157
 t45:=Tryz.underlying185
 a45:=Tryz.isAgg185
 z45:=Tryz.sizeOf185
 v45:=Tryz.zeroValue185
 t46:=Tryz.underlying186
 a46:=Tryz.isAgg186
 z46:=Tryz.sizeOf186
 v46:=Tryz.zeroValue186
 t50:=Tryz.underlying135
 a50:=Tryz.isAgg135
 z50:=Tryz.sizeOf135
 v50:=Tryz.zeroValue135
 t53:=Tryz.underlying66
 a53:=Tryz.isAgg66
 z53:=Tryz.sizeOf66
 v53:=Tryz.zeroValue66
 t55:=Tryz.underlying150
 a55:=Tryz.isAgg150
 z55:=Tryz.sizeOf150
 v55:=Tryz.zeroValue150
 t66:=Tryz.underlying214
 a66:=Tryz.isAgg214
 z66:=Tryz.sizeOf214
 v66:=Tryz.zeroValue214
 t70:=Tryz.underlying128
 a70:=Tryz.isAgg128
 z70:=Tryz.sizeOf128
 v70:=Tryz.zeroValue128
 t76:=Tryz.underlying235
 a76:=Tryz.isAgg235
 z76:=Tryz.sizeOf235
 v76:=Tryz.zeroValue235
 t77:=Tryz.underlying236
 a77:=Tryz.isAgg236
 z77:=Tryz.sizeOf236
 v77:=Tryz.zeroValue236}
end Go.Proofs
set_option maxRecDepth 100000
--Pfx2
namespace Go.Proofs.YtaijldpbpimdlaaGreatDoor
open Go.RowKit
open Go.BinOp (eql neq)
open _root_.Classical (byContradiction)
open _root_.Int (ofNat toNat_natCast)
open Go.IntKind (i64 signed u32 wrap)
open _root_.List (Pairwise append_nil cons_append flatMap_cons flatten flatten_cons foldl_append getElem?_cons_zero getElem?_eq_getElem getElem?_map getElem?_take length length_append length_cons length_map length_nil length_take map_append map_congr_left map_cons map_id map_map map_nil mem_append mem_cons mem_cons_of_mem mem_cons_self mem_map mem_map_of_mem mem_singleton nil_append nodup_cons nodup_nil not_mem_nil pairwise_cons set_cons_succ set_cons_zero take_add_one take_length take_succ_cons take_zero toArray)
open _root_.Nat (add_mul beq beq_refl ble ble_eq_true_of_le eq_of_beq_eq_true le_refl le_trans zero_add zero_le)
open _root_.Option (getD_some map_none map_some)
open _root_.Prod (ext fst snd)
open Go.Sort (grow)
open Go.Proofs.Tryz (func58 prog underlying70)
section
open Go.RowKit
def oL (a b:Int):Int:=if a<b then-1 else if b<a then 1 else 0
set_option maxHeartbeats 400000 in
theorem SI (a b:Int)(w:World):Calls prog 78 #[.int .u32 a,.int .u32 b] w λe w'=>e=.returned (.int .i64 (oL a b))∧w=w':=by
 go_enter Tryz.func78,Tryz.ntmps78
 go_wp2
 all_goals (go_ret;exact ⟨Ej (by unfold oL;first | rw [if_pos ‹_›] | rw [if_neg (by omega),if_pos (by omega)] | rw [if_neg (by omega),if_neg (by omega)]),rfl⟩)
set_option maxHeartbeats 400000 in
theorem UK (a b:Int)(w:World):Calls prog 79 #[.int .i64 a,.int .i64 b] w λe w'=>e=.returned (.int .i64 (oL a b))∧w=w':=by
 go_enter Tryz.func79,Tryz.ntmps79
 go_wp2
 all_goals (go_ret;exact ⟨Ej (by unfold oL;first | rw [if_pos ‹_›] | rw [if_neg (by omega),if_pos (by omega)] | rw [if_neg (by omega),if_neg (by omega)]),rfl⟩)
def tO:List Int→Int
 |[]=>0
 |x::r=>if x=0 then tO r else x
theorem wu:∀(zs:List Int) (k:Nat),(∀j,j<k→zs.getD j 0=0)→tO zs=tO (zs.drop k)
 |[],_,_=>by simp
 |x::r,0,_=>by simp
 |x::r,k+1,h=>by
  have h0:=h 0 (by omega)
  simp at h0
  simp only [tO,h0,if_true,List.drop_succ_cons]
  exact wu r k (λj hj=>by have:=h (j+1) (by omega);simpa using this)

set_option maxHeartbeats 400000 in
theorem Wk (zs:List Int)(w:World)(pb po:Nat)(hn:zs.length≤20000)(hc:∀j,j<zs.length→w.cell? ⟨pb,po+j,none⟩=some (.int .i64 (zs.getD j 0))):
  Calls prog 77 #[.slice (some ⟨pb,po,none⟩) zs.length zs.length] w λe w'=>e=.returned (.int .i64 (tO zs))∧w=w':=by
 have HC:=Lib.hid hc
 clear hc
 go_enter Tryz.func77,Tryz.ntmps77
 go_wp2
 go_loop [5,8] (λ_ i=>∃k:Nat,k≤zs.length∧i=.int .i64 k∧∀j,j<k→zs.getD j 0=0) (λ_ i=>zs.length-(intOf i).toNat)
 case atStart=>exact ⟨0,zero_le _,rfl,λj hj=>absurd hj (by omega)⟩
 case round=>
  obtain ⟨k,hk,rfl,hz⟩:=hrel
  have HZ:=Lib.hid hz
  clear hz
  by_cases hlt:k<zs.length
  ·have c0:=HC.out k hlt
   generalize hx:zs.getD k 0=x at c0
   have HX:=Lib.hid hx
   clear hx
   by_cases h0:x=0
   ·subst h0
    go_wp2
    go_round
    case rel=>exact ⟨k+1,by omega,by go_num,λj hj=>by
     rcases Nat.lt_or_ge j k with h | h
     ·exact HZ.out j h
     ·obtain rfl:j=k:=by omega
      exact HX.out⟩
    case measure=>simp [intOf];omega
   ·have e1:=Lib.hid (show tO zs=x by
     rw [wu zs k HZ.out,List.drop_eq_getElem_cons hlt]
     have:zs[k]=x:=by rw [←HX.out];simp [hlt]
     simp only [tO,this,h0,if_false])
    have h0':(x !=0)=true:=by simpa using h0
    clear h0
    go_wp2
    go_ret
    exact ⟨by rw [e1.out];rfl,rfl⟩
  ·have e1:=Lib.hid (show tO zs=0 by
    rw [wu zs k HZ.out,List.drop_eq_nil_of_le (by omega)];rfl)
   go_wp2
   go_ret
   exact ⟨by rw [e1.out];rfl,rfl⟩
def UL (a:Int)(n:Int)(b:Int)(m:Int):Int:=tO [oL a b,oL n m]
end
--PREv
section
open Go.RowKit
abbrev jM:=60
abbrev Mt:=56
abbrev Mu:=37
def qH (a n:Int):List TV:= [.val (.int .u32 a),.val (.int .i64 n)]
def Wl (q:List TV)(qs:List (List TV)):gD:=bB [(7,.row 2 0 0 (q::qs).length,some λT=>T.newRow (q::qs).flatten)]
def AF:List Nat:= [0,2,3]
def Dx (n:Nat)(j:Int):List TV:= [.row 2 0 0 n,.val (.slice none 0 0),.val (.int .i64 j)]
def SJ (n:Nat)(cs:List TV)(D0:Prop)(D1:Nat→List TV→Prop)(c0:Code):Nat→Option (bW × Code):=bX [(0,gn 61 AF [] (Dx n 1) ⟨[.row cs],[]⟩ λK=>(D0→K .normal (aI 61 AF (Dx n n)) ⟨[.row cs],[]⟩ [])∧∀(k:Nat) (cs':List TV),D1 k cs'→K .ret (aI 61 AF [.row 2 0 0 n,.row 2 0 0 k,.val (.int .i64 k)]) ⟨[.row cs'],[]⟩ [],c0)]
def Dy:List Nat:= [0,2,3,4,5]
def wv (n j:Nat)(k m:Int):List TV:= [.row 2 0 0 n,.val (.slice none 0 0),.val (.int .i64 k),.row 2 0 j (n-j),.val (.int .i64 m)]
def SK (n j:Nat)(cs:List TV)(D2:Nat→List TV→Prop)(c0:Code):Nat→Option (bW × Code):=bX [(2,gn 61 Dy [] (wv n j j 1) ⟨[.row cs],[]⟩ λK=>∀(k:Nat) (cs':List TV),D2 k cs'→K .normal (aI 61 Dy (wv n j k ((n-j:Nat):Int))) ⟨[.row cs'],[]⟩ [],c0)]
def tQ:Value:=.agg #[.int .u32 0,.int .i64 0]
def Mv (T:VT):List TV:=match T.objs with
 | .row cs::_=>cs
 |_=> []
def HD (l:List (Nat × TV × Option (VT→VT)))(n:Nat):gD:=λo vs T=>match o.op with
 | .call c=>match c.callee,vs with
  | .builtin .clear,[.row _ _ k m]=>some (.val (.tuple #[]),some ⟨[.row (bs (Mv T) (k*2) (p9 tQ m))],[]⟩)
  |_,_=>none
 |_=>match o.dst,vs with
  |some d,[_,.val (.int _ z)]=>bif beq d 56 then some (.row 2 0 z.toNat (n-z.toNat),none) else bif beq d 59 then some (.row 2 0 0 z.toNat,none) else bB l o vs T
  |_,_=>bB l o vs T
def SL (R:Prop)(L:List (List TV))(n:Nat)(cs cs2:List TV)(D:Nat→List TV→Prop):FuncId→Option be:=aT [(Mt,λro ys T K=>(ro=0∧ys= [.vec 2 L .none]∧T=⟨[],[]⟩)∧R∧K (.row 2 0 0 n) ⟨[.row cs],[]⟩),(57,λro ys T K=>(ro=0∧ys= [.row 2 0 0 n,.fn (.func 58) [] []]∧T=⟨[.row cs],[]⟩)∧R∧K (.val (.tuple #[])) ⟨[.row cs2],[]⟩),(jM,λro ys T K=>(ro=0∧ys= [.row 2 0 0 n]∧T=⟨[.row cs2],[]⟩)∧∀(k:Nat) (cs3:List TV),D k cs3→K (.row 2 0 0 k) ⟨[.row cs3],[]⟩)]
theorem UM (q:List TV)(qs:List (List TV))(Q:TV→VT→Prop):ax prog ae bo (Wl q qs) 300 aU 0 Mt [.vec 2 (q::qs) .none] ⟨[],[]⟩ Q=
 (bp prog (λ_=>.none) 0 ⟨[],[]⟩ (.call ⟨(.builtin .append),#[(.tmp 5),(.tmp 6)],#[70,70]⟩) [(5,(.vec 2 [] .full)),(6,(.vec 2 ([(q)]++qs) .none))] (.row 2 0 0 (length (q::qs))) ⟨[(.row (flatten (q::qs)))],[]⟩∧
 Q (.row 2 0 0 (length (q::qs))) ⟨[(.row (flatten (q::qs)))],[]⟩):=by kernel_rfl
theorem UN (n:Nat)(cs:List TV)(D0:Prop)(D1:Nat→List TV→Prop)(Q:TV→VT→Prop):ax prog ae bo (HD [(999999,.dead,none)] n) 300 (SJ n cs D0 D1 (aE prog jM 0)) 0 jM [.row 2 0 0 n] ⟨[.row cs],[]⟩ Q=
 (bif decide ((↑n:Int)<(2:Int))
 then Q (.row 2 0 0 (n)) ⟨[(.row (cs))],[]⟩
 else ((aE prog jM (0:Nat)=aE prog jM (0:Nat))∧
 (((@Eq (Option Nat) .none .none)∧
 ((@Eq (Nat) 0 0)∧
 ((@Eq (List Nat) [] [])∧
 (True  ∧
 ((@Eq (VT) ⟨[(.row (cs))],[]⟩ ⟨[(.row (cs))],[]⟩)∧
 ((@Eq (Bool) true true)∧
 (@Eq (List TV) [(.row 2 0 0 (n)),(.val (.slice .none 0 0)),(.val (.int .i64 1))] [(.row 2 0 0 (n)),(.val (.slice .none 0 0)),(.val (.int .i64 1))])))))))∧
 ((D0  →Q (.row 2 0 0 (n)) ⟨[(.row (cs))],[]⟩)∧
 (∀k:Nat,(∀cs':List TV,(D1 (k) (cs')→Q (.row 2 0 0 (k)) ⟨[(.row (cs'))],[]⟩))))))):=by kernel_rfl
theorem SM (n j:Nat)(cs:List TV)(a1 n1 a2 n2:Int)(D2:Nat→List TV→Prop)(Q:Exit→List TV→VT→List Nat→Nat→Prop):vx prog ae bo (HD [(999999,.dead,none),(18,.ptr 0 (j*2),none),(19,.agg (qH a1 n1),none),(23,.ptr 0 ((j-1)*2),none),(24,.agg (qH a2 n2),none),(28,.row 2 0 j (n-j),none)] n) 300 (SK n j cs D2 (aE prog jM 2)) none 0 (cC prog jM 0) (aI 61 AF (Dx n j)) ⟨[.row cs],[]⟩ [] (dw AF Q)=
 (bif decide ((↑j:Int)<(↑n:Int))
 then (aS prog (λ_=>.none) (.indexAddr 70 (.tmp 16) (.tmp 17)) [(16,(.row 2 0 0 (n))),(17,(.val (.int .i64 ((↑j:Int)))))] (.ptr 0 (j*(2:Nat)))∧
 (aS prog (λ_=>.none) (.indexAddr 70 (.tmp 20) (.tmp 22)) [(20,(.row 2 0 0 (n))),(22,(.val (.int .i64 (wrap i64 ((↑j:Int)-(1:Int))))))] (.ptr 0 ((j-(1:Nat))*(2:Nat)))∧
 (mh prog (λ_=>.none) ⟨[(.row (cs))],[]⟩ false (.load 94 (.tmp 18)) [(18,(.ptr 0 (j*(2:Nat))))] (.agg [(.val (.int .u32 (a1))),(.val (.int .i64 (n1)))])∧
 (mh prog (λ_=>.none) ⟨[(.row (cs))],[]⟩ false (.load 94 (.tmp 23)) [(23,(.ptr 0 ((j-(1:Nat))*(2:Nat))))] (.agg [(.val (.int .u32 (a2))),(.val (.int .i64 (n2)))])∧
 (bif av eql (aq ((λvs=>Value.agg (toArray vs)) ((λx=>Value.int u32 a1::x) ((λx=>Value.int i64 n1::x) []))) ((λvs=>Value.agg (toArray vs)) ((λx=>Value.int u32 a2::x) ((λx=>Value.int i64 n2::x) []))))
 then (aS prog (λ_=>.none) (.slice 70 (.tmp 26) (.some (.tmp 27)) .none .none) [(26,(.row 2 0 0 (n))),(27,(.val (.int .i64 ((↑j:Int)))))] (.row 2 0 (j) (n-j))∧
 ((aE prog jM (2:Nat)=aE prog jM (2:Nat))∧
 (((@Eq (Option Nat) .none .none)∧
 ((@Eq (Nat) 0 0)∧
 ((@Eq (List Nat) [] [])∧
 (True  ∧
 ((@Eq (VT) ⟨[(.row (cs))],[]⟩ ⟨[(.row (cs))],[]⟩)∧
 ((@Eq (Bool) true true)∧
 (@Eq (List TV) [(.row 2 0 0 (n)),(.val (.slice .none 0 0)),(.val (.int .i64 ((↑j:Int)))),(.row 2 0 (j) (n-j)),(.val (.int .i64 1))] [(.row 2 0 0 (n)),(.val (.slice .none 0 0)),(.val (.int .i64 ((↑j:Int)))),(.row 2 0 (j) (n-j)),(.val (.int .i64 1))])))))))∧
 (∀k:Nat,(∀cs':List TV,(D2 (k) (cs')→(aS prog (λ_=>.none) (.slice 70 (.tmp 54) (.some (.tmp 55)) .none .none) [(54,(.row 2 0 0 (n))),(55,(.val (.int .i64 ((↑k:Int)))))] (.row 2 0 (Int.toNat (↑k:Int)) (n-Int.toNat (↑k:Int)))∧
 (bp prog (λ_=>.none) 0 ⟨[(.row (cs'))],[]⟩ (.call ⟨(.builtin .clear),#[(.tmp 56)],#[70]⟩) [(56,(.row 2 0 (Int.toNat (↑k:Int)) (n-Int.toNat (↑k:Int))))] (.val (.tuple #[])) ⟨[(.row (bs (Mv {objs:= [VO.row cs'],tails:= []}) (Int.toNat (↑k:Int)*(2:Nat)) (p9 tQ (n-Int.toNat (↑k:Int)))))],[]⟩∧
 (aS prog (λ_=>.none) (.slice 70 (.tmp 57) .none (.some (.tmp 58)) .none) [(57,(.row 2 0 0 (n))),(58,(.val (.int .i64 ((↑k:Int)))))] (.row 2 0 0 (Int.toNat (↑k:Int)))∧
 Q .ret [(.row 2 0 0 (n)),(.row 2 0 0 (Int.toNat (↑k:Int))),(.val (.int .i64 ((↑k:Int))))] ⟨[(.row (bs (Mv {objs:= [VO.row cs'],tails:= []}) (Int.toNat (↑k:Int)*(2:Nat)) (p9 tQ (n-Int.toNat (↑k:Int)))))],[]⟩ [] 61)))))))))
 else Q .normal [(.row 2 0 0 (n)),(.val (.slice .none 0 0)),(.val (.int .i64 (wrap i64 ((↑j:Int)+(1:Int)))))] ⟨[(.row (cs))],[]⟩ [] 61)))))
 else Q (.exit 0) [(.row 2 0 0 (n)),(.val (.slice .none 0 0)),(.val (.int .i64 ((↑j:Int))))] ⟨[(.row (cs))],[]⟩ [] 61):=by kernel_rfl
theorem JY (n j k m:Nat)(cs:List TV)(a1 n1 a2 n2:Int)(Q:Exit→List TV→VT→List Nat→Nat→Prop):vx prog ae bo (HD [(999999,.dead,none),(37,.ptr 0 (j*2+m*2),none),(38,.agg (qH a1 n1),none),(42,.ptr 0 (j*2+(m-1)*2),none),(43,.agg (qH a2 n2),none),(49,.ptr 0 (j*2+m*2),none),(50,.agg (qH a1 n1),some λT=>T),(51,.ptr 0 (k*2),none),(500051,.val undef,some λ_=>⟨[.row (bs cs (k*2) (qH a1 n1))],[]⟩)] n) 300 aU none 0 (cC prog jM 2) (aI 61 Dy (wv n j k m)) ⟨[.row cs],[]⟩ [] (dw Dy Q)=
 (bif decide ((↑m:Int)<(↑(n-j):Int))
 then (aS prog (λ_=>.none) (.indexAddr 70 (.tmp 35) (.tmp 36)) [(35,(.row 2 0 (j) (n-j))),(36,(.val (.int .i64 ((↑m:Int)))))] (.ptr 0 (j*(2:Nat)+m*(2:Nat)))∧
 (aS prog (λ_=>.none) (.indexAddr 70 (.tmp 39) (.tmp 41)) [(39,(.row 2 0 (j) (n-j))),(41,(.val (.int .i64 (wrap i64 ((↑m:Int)-(1:Int))))))] (.ptr 0 (j*(2:Nat)+(m-(1:Nat))*(2:Nat)))∧
 (mh prog (λ_=>.none) ⟨[(.row (cs))],[]⟩ false (.load 94 (.tmp 37)) [(37,(.ptr 0 (j*(2:Nat)+m*(2:Nat))))] (.agg [(.val (.int .u32 (a1))),(.val (.int .i64 (n1)))])∧
 (mh prog (λ_=>.none) ⟨[(.row (cs))],[]⟩ false (.load 94 (.tmp 42)) [(42,(.ptr 0 (j*(2:Nat)+(m-(1:Nat))*(2:Nat))))] (.agg [(.val (.int .u32 (a2))),(.val (.int .i64 (n2)))])∧
 (bif av neq (aq ((λvs=>Value.agg (toArray vs)) ((λx=>Value.int u32 a1::x) ((λx=>Value.int i64 n1::x) []))) ((λvs=>Value.agg (toArray vs)) ((λx=>Value.int u32 a2::x) ((λx=>Value.int i64 n2::x) []))))
 then (aS prog (λ_=>.none) (.indexAddr 70 (.tmp 47) (.tmp 48)) [(47,(.row 2 0 (j) (n-j))),(48,(.val (.int .i64 ((↑m:Int)))))] (.ptr 0 (j*(2:Nat)+m*(2:Nat)))∧
 (bp prog (λ_=>.none) 0 ⟨[(.row (cs))],[]⟩ (.load 94 (.tmp 49)) [(49,(.ptr 0 (j*(2:Nat)+m*(2:Nat))))] (.agg [(.val (.int .u32 (a1))),(.val (.int .i64 (n1)))]) ⟨[(.row (cs))],[]⟩∧
 (aS prog (λ_=>.none) (.indexAddr 70 (.tmp 45) (.tmp 46)) [(45,(.row 2 0 0 (n))),(46,(.val (.int .i64 ((↑k:Int)))))] (.ptr 0 (k*(2:Nat)))∧
 (bp prog (λ_=>.none) 0 ⟨[(.row (cs))],[]⟩ (.store 94 (.tmp 51) (.tmp 50)) [(51,(.ptr 0 (k*(2:Nat)))),(50,(.agg [(.val (.int .u32 (a1))),(.val (.int .i64 (n1)))]))] (.val (.tuple #[])) ⟨[(.row (bs cs (k*(2:Nat)) (qH a1 n1)))],[]⟩∧
 Q .normal [(.row 2 0 0 (n)),(.val (.slice .none 0 0)),(.val (.int .i64 (wrap i64 ((↑k:Int)+(1:Int))))),(.row 2 0 (j) (n-j)),(.val (.int .i64 (wrap i64 ((↑m:Int)+(1:Int)))))] ⟨[(.row (bs cs (k*(2:Nat)) (qH a1 n1)))],[]⟩ [] 61))))
 else Q .normal [(.row 2 0 0 (n)),(.val (.slice .none 0 0)),(.val (.int .i64 ((↑k:Int)))),(.row 2 0 (j) (n-j)),(.val (.int .i64 (wrap i64 ((↑m:Int)+(1:Int)))))] ⟨[(.row (cs))],[]⟩ [] 61)))))
 else Q (.exit 2) [(.row 2 0 0 (n)),(.val (.slice .none 0 0)),(.val (.int .i64 ((↑k:Int)))),(.row 2 0 (j) (n-j)),(.val (.int .i64 ((↑m:Int))))] ⟨[(.row (cs))],[]⟩ [] 61):=by kernel_rfl
theorem SN (Q:TV→VT→Prop):ax prog ae bo aR 3000 aU 0 Mu [.vec 2 [] .none] ⟨[],[]⟩ Q=
 (Q (.val (.slice .none 0 0)) ⟨[],[]⟩∧
 Q (.vec 2 [] .full) ⟨[],[]⟩):=by kernel_rfl
theorem SO (R:Prop)(L:List (List TV))(n:Nat)(cs cs2:List TV)(D:Nat→List TV→Prop)(Q:TV→VT→Prop):ax prog ae (SL R L n cs cs2 D) (VN [(999998,.dead)]) 300 aU 0 Mu [.vec 2 L .none] ⟨[],[]⟩ Q=
 (((@Eq (Nat) 0 0)∧
 ((@Eq (List TV) [(.vec 2 (L) .none)] [(.vec 2 (L) .none)])∧
 (@Eq (VT) ⟨[],[]⟩ ⟨[],[]⟩)))∧
 (R  ∧
 (((@Eq (Nat) 0 0)∧
 ((@Eq (List TV) [(.row 2 0 0 (n)),(.fn (.func 58) [] [])] [(.row 2 0 0 (n)),(.fn (.func 58) [] [])])∧
 (@Eq (VT) ⟨[(.row (cs))],[]⟩ ⟨[(.row (cs))],[]⟩)))∧
 (R  ∧
 (((@Eq (Nat) 0 0)∧
 ((@Eq (List TV) [(.row 2 0 0 (n))] [(.row 2 0 0 (n))])∧
 (@Eq (VT) ⟨[(.row (cs2))],[]⟩ ⟨[(.row (cs2))],[]⟩)))∧
 (∀k:Nat,(∀cs3:List TV,(D (k) (cs3)→Q (.row 2 0 0 (k)) ⟨[(.row (cs3))],[]⟩)))))))):=by kernel_rfl
end
--PRCmp
section
open Go.RowKit
set_option maxHeartbeats 400000 in
theorem UO (a n b m:Int)(w:World):
  Calls prog 59 #[.agg #[.int .u32 a,.int .i64 n],.agg #[.int .u32 b,.int .i64 m]] w λe w'=>e=.returned (.int .i64 (UL a n b m))∧Gd w w':=by
 have d0:=Bo ((Gr.refl _).alloc (.cells #[.int .u32 b,.int .i64 m] 94)) (ui w [.int .u32 a,.int .i64 n] 94 0 _ rfl)
 have d1:=Bo ((Gr.refl _).alloc (.cells #[.int .u32 b,.int .i64 m] 94)) (ui w [.int .u32 a,.int .i64 n] 94 1 _ rfl)
 have d2:=ui (w.alloc (.cells #[.int .u32 a,.int .i64 n] 94)) [.int .u32 b,.int .i64 m] 94 0 _ rfl
 have d3:=ui (w.alloc (.cells #[.int .u32 a,.int .i64 n] 94)) [.int .u32 b,.int .i64 m] 94 1 _ rfl
 have gw:=((Gr.refl w).alloc (.cells #[.int .u32 a,.int .i64 n] 94)).alloc (.cells #[.int .u32 b,.int .i64 m] 94)
 simp only [World.size_alloc] at d2 d3
 go_enter Tryz.func59,Tryz.ntmps59
 go_wp2_with fail
 have hd:((w.alloc (.cells #[.int .u32 a,.int .i64 n] 94)).alloc (.cells #[.int .u32 b,.int .i64 m] 94)).drawn=w.drawn:=rfl
 generalize (w.alloc (.cells #[.int .u32 a,.int .i64 n] 94)).alloc (.cells #[.int .u32 b,.int .i64 m] 94)=W at*
 replace gw:Gd w W:=⟨gw,by omega⟩
 replace d0:=λw' (k:Gd W w')=>d0 w' k.1
 replace d1:=λw' (k:Gd W w')=>d1 w' k.1
 replace d2:=λw' (k:Gd W w')=>d2 w' k.1
 replace d3:=λw' (k:Gd W w')=>d3 w' k.1
 have hS0:=(Gd.refl W).drew
 refine yA [(0,true),(1,true),(2,true),(3,true),(5,true),(6,true),(7,true),(8,true),(4,false),(9,false),(10,false),(11,false),(12,true)] (Gd W) (by kernel_rfl) (by kernel_rfl) hS0 ?_
 simp only [nv,List.getElem?_toArray,getElem?_cons_zero,List.getElem?_cons_succ]
 repeat (first
  | (refine DX (by rfl) ?_;(try simp only [Act.put,List.setIfInBounds_toArray,set_cons_zero,set_cons_succ]))
  | (refine DY (by rfl) ?_;apply Exists.intro;refine ⟨λw' hSw=> ?_,?_⟩;(focus ((try dsimp only at hSw);go_simp;first | done | with_reducible rfl));(try simp only [Act.put,List.setIfInBounds_toArray,set_cons_zero,set_cons_succ]))
  | (refine zB (by rfl) (λK hK=> ?_);go_simp;(first | (go_at_call 78;refine (SI _ _ _).mono ?_;rintro e w2 ⟨rfl,rfl⟩) | (go_at_call 79;refine (UK _ _ _).mono ?_;rintro e w2 ⟨rfl,rfl⟩) | (go_at_call 77;refine (Wk [oL a b,oL n m] _ _ 0 (by simp) ?_).mono ?_;(focus (intro j hj;simp at hj;obtain rfl | rfl:j=0∨j=1:=(by omega))<;>simp);rintro e w2 ⟨rfl,rfl⟩));refine hK _ _ (by first | exact Gd.alloc (by assumption) _ | assumption) (λhSn=> ?_);clear hK K;(try simp only [Act.put,List.setIfInBounds_toArray,set_cons_zero,set_cons_succ]))
  | (refine zB (by rfl) (λK hK=> ?_);go_simp;refine hK _ _ (by first | exact Gd.alloc (by assumption) _ | assumption) (λhSn=> ?_);clear hK K;(try simp only [Act.put,List.setIfInBounds_toArray,set_cons_zero,set_cons_succ])))
 refine FE ?_
 go_wp2
 go_ret
 exact ⟨rfl,gw.trans (by assumption)⟩
def qI (x y:Int × Int):Int:=tO [oL x.1 y.1,oL x.2 y.2]
set_option maxHeartbeats 400000 in
theorem Mw (x y:Int × Int)(w:World):
  Calls prog 58 #[.agg #[.int .u32 x.1,.int .i64 x.2],.agg #[.int .u32 y.1,.int .i64 y.2]] w λe w'=>e=.returned (.int .i64 (qI x y))∧Gd w w':=by
 have HC:=Lib.hid λW=>UO x.1 x.2 y.1 y.2 W
 go_enter func58,Tryz.ntmps58
 go_wp2_with fail
 refine (HC.out _).mono ?_;rintro e w1 ⟨rfl,hb⟩
 go_wp2
 go_ret
 exact ⟨rfl,(((Gd.refl w).alloc _).alloc _).trans hb⟩
end
--PRLaw
section
open Go.RowKit Go.Sort Go.Shelf
abbrev Px:=Int × Int
def ej (x y:Px):Prop:=x.1<y.1∨(x.1=y.1∧x.2<y.2)
instance (x y:Px):Decidable (ej x y):=by unfold ej;infer_instance
theorem fv (x:Px):¬ej x x:=by unfold ej;omega
theorem lp {x y z:Px}(h:ej x y)(k:ej y z):ej x z:=by unfold ej at*;omega
theorem rJ {x y:Px}(h:¬ej x y)(k:¬ej y x):x=y:=by
 obtain ⟨a,b⟩:=x;obtain ⟨c,d⟩:=y
 unfold ej at*
 simp only at*
 have:a=c∧b=d:=by omega
 rw [this.1,this.2]
theorem yd:∀{l m:List Px},l.Pairwise ej→m.Pairwise ej→(∀x,x∈l ↔ x∈m)→l=m
 |[],[],_,_,_=>rfl
 |[],b::m,_,_,h=>by have:=(h b).2 (by simp);simp at this
 |a::l,[],_,_,h=>by have:=(h a).1 (by simp);simp at this
 |a::l,b::m,hl,hm,h=>by
  obtain ⟨hl1,hl2⟩:=pairwise_cons.1 hl
  obtain ⟨hm1,hm2⟩:=pairwise_cons.1 hm
  have e:a=b:=by
   rcases mem_cons.1 ((h a).1 (by simp)) with h1 | h1
   ·exact h1
   ·rcases mem_cons.1 ((h b).2 (by simp)) with h2 | h2
    ·exact h2.symm
    ·exact absurd (lp (hm1 a h1) (hl1 b h2)) (fv b)
  subst e
  congr 1
  refine yd hl2 hm2 λx=>⟨λhx=> ?_,λhx=> ?_⟩
  ·rcases mem_cons.1 ((h x).1 (mem_cons_of_mem _ hx)) with rfl | h1
   ·exact absurd (hl1 x hx) (fv x)
   ·exact h1
  ·rcases mem_cons.1 ((h x).2 (mem_cons_of_mem _ hx)) with rfl | h1
   ·exact absurd (hm1 x hx) (fv x)
   ·exact h1
def hZ:Px→List Px→List Px
 |_,[]=> []
 |p,a::l=>if a=p then hZ p l else a::hZ a l
def cO:List Px→List Px
 |[]=> []
 |a::l=>a::hZ a l
theorem tS:∀{p:Px} {l:List Px} {x:Px},(x=p∨x∈hZ p l) ↔ (x=p∨x∈l)
 |p,[],x=>by simp [hZ]
 |p,a::l,x=>by
  simp only [hZ]
  split
  ·rename_i e;subst e
   rw [tS];simp
  ·have ih:= @tS a l x
   simp only [mem_cons]
   constructor
   ·rintro (h | h)
    ·exact .inl h
    ·exact .inr (ih.1 h)
   ·rintro (h | h)
    ·exact .inl h
    ·exact .inr (ih.2 h)
theorem JZ {l:List Px}{x:Px}:x∈cO l ↔ x∈l:=by
 cases l with
 |nil=>rfl
 |cons a l=>simp only [cO,mem_cons];exact tS
theorem oM:∀{p:Px} {l:List Px},(p::l).Pairwise (λx y=>¬ej y x)→(p::hZ p l).Pairwise ej
 |p,[],_=>by simp [hZ]
 |p,a::l,h=>by
  obtain ⟨h1,h2⟩:=pairwise_cons.1 h
  simp only [hZ]
  split
  ·rename_i e;subst e
   exact oM h2
  ·rename_i e
   have ih:=oM h2
   refine pairwise_cons.2 ⟨λx hx=> ?_,ih⟩
   have hpa:ej p a:=byContradiction λk=>e (rJ (h1 a (by simp)) k)
   rcases mem_cons.1 hx with rfl | hx
   ·exact hpa
   ·exact lp hpa ((pairwise_cons.1 ih).1 x hx)
theorem Dz {l:List Px}(h:l.Pairwise (λx y=>¬ej y x)):(cO l).Pairwise ej:=by
 cases l with
 |nil=>simp [cO]
 |cons a l=>exact oM h
theorem DA (x y:Px):ltOf qI x y=true ↔ ej x y:=by
 unfold ltOf qI ej
 simp only [tO,oL]
 by_cases a1:x.1<y.1
 ·simp [a1]
 ·by_cases a2:y.1<x.1
  ·simp [a1,a2];omega
  ·by_cases b1:x.2<y.2
   ·simp [a1,a2,b1];omega
   ·by_cases b2:y.2<x.2
    ·simp [a1,a2,b1,b2];try omega
    ·simp [a1,a2,b1,b2]
theorem nL (x y:Px):ltOf qI x y=false ↔ ¬ej x y:=by rw [←DA x y];simp
theorem SP:SWO (ltOf qI):=by
 refine ⟨λx=> ?_,λx y z h1 h2=> ?_,λx y z h1 h2=> ?_⟩
 ·rw [nL];exact fv x
 ·rw [DA] at*;exact lp h1 h2
 ·rw [nL] at*;unfold ej at*;omega
theorem Mx (x y:Px)(h1:ltOf qI x y=false)(h2:ltOf qI y x=false):x=y:=by
 rw [nL] at h1 h2;exact rJ h1 h2
def gt (l:List Px):List Px:=l.mergeSort λx y=> !(ltOf qI) y x
theorem AG (l:List Px):(gt l).length=l.length:=List.length_mergeSort l
theorem DB (l:List Px):(gt l).Pairwise (λx y=>¬ej y x):=by
 have:=List.pairwise_mergeSort (le:=λx y=> !(ltOf qI) y x) (λa b c h1 h2=> ?_) (λa b=> ?_) l
 ·refine Pairwise.imp ?_ this
  intro a b h
  exact (nL b a).1 (by simpa using h)
 ·simp only [Bool.not_eq_eq_eq_not,Bool.not_true] at*
  rw [nL] at*
  unfold ej at*;omega
 ·cases h:ltOf qI b a with
  |false=>simp
  |true=>
   have h1:=(DA b a).1 h
   have:ltOf qI a b=false:=(nL a b).2 λk=>fv a (lp k h1)
   simp [this]
theorem rK:∀(p:Px) (l:List Px) (x:Px),hZ p (l++ [x])=if (p::l).getLast?=some x then hZ p l else hZ p l++ [x]
 |p,[],x=>by
  simp only [nil_append,hZ,List.getLast?_singleton,Option.some.injEq]
  by_cases h:x=p
  ·subst h;simp
  ·rw [if_neg h,if_neg (λe=>h e.symm)]
 |p,a::l,x=>by
  have e:(p::a::l).getLast?=(a::l).getLast?:=by simp [List.getLast?_cons_cons]
  simp only [cons_append,hZ,e]
  split
  ·rename_i h;subst h
   exact rK a l x
  ·rw [rK a l x]
   split<;>simp
theorem HE (l:List Px)(x:Px)(hl:l≠ []):cO (l++ [x])=if l.getLast?=some x then cO l else cO l++ [x]:=by
 cases l with
 |nil=>exact absurd rfl hl
 |cons a l=>
  simp only [cons_append,cO,rK]
  split<;>simp
theorem nu {l:List Px}{j:Nat}{x y:Px}(hx:l[j]?=some x)(hj:0<j)(hy:l[j-1]?=some y):cO (l.take (j+1))=if y=x then cO (l.take j) else cO (l.take j)++ [x]:=by
 have hlt:=(List.getElem?_eq_some_iff.1 hx).1
 have e:l.take (j+1)=l.take j++ [x]:=by rw [take_add_one,hx];rfl
 have hn:l.take j≠ []:=by
  intro h
  have:=congrArg length h
  rw [length_take,length_nil] at this
  omega
 have hlast:(l.take j).getLast?=some y:=by
  have hj2:(l.take j).length=j:=by rw [length_take];omega
  rw [List.getLast?_eq_getElem?,hj2,getElem?_take,if_pos (by omega)]
  exact hy
 rw [e,HE _ _ hn,hlast]
 simp
theorem Ei {l:List Px}(h:0<l.length):cO (l.take 1)=l.take 1:=by
 cases l with
 |nil=>simp at h
 |cons a l=>simp [cO,hZ]
structure CptB (l c:List Px) (k j:Nat):Prop where
 len:c.length=l.length
 k0:0<k
 kj:k<j
 jl:j≤l.length
 done:c.take k=cO (l.take j)
 left:c.drop (j-1)=l.drop (j-1)
theorem CptB.start {l:List Px}{j:Nat}{x:Px}(hj:0<j)(hx:l[j]?=some x)(hy:l[j-1]?=some x)(h:cO (l.take j)=l.take j):CptB l l j (j+1) where
 len:=rfl
 k0:=hj
 kj:=Nat.lt_succ_self _
 jl:=(List.getElem?_eq_some_iff.1 hx).1
 done:=by rw [nu hx hj hy,if_pos rfl,h]
 left:=rfl
theorem CptB.at {l c:List Px}{k j:Nat}(h:CptB l c k j){i:Nat}(hi:j-1≤i):c[i]?=l[i]?:=by
 have e:=h.left
 have h1:(c.drop (j-1))[i-(j-1)]?=(l.drop (j-1))[i-(j-1)]?:=by rw [e]
 simp only [List.getElem?_drop] at h1
 rwa [show j-1+(i-(j-1))=i by omega] at h1
theorem CptB.same {l c:List Px}{k j:Nat}(h:CptB l c k j){x:Px}(hx:l[j]?=some x)(hy:l[j-1]?=some x):CptB l c k (j+1) where
 len:=h.len
 k0:=h.k0
 kj:=by have:=h.kj;omega
 jl:=(List.getElem?_eq_some_iff.1 hx).1
 done:=by rw [nu hx (by have:=h.kj;omega) hy,if_pos rfl];exact h.done
 left:=by
  have e:=h.left
  have hj:=h.kj
  have h1:(c.drop (j-1)).drop 1=(l.drop (j-1)).drop 1:=by rw [e]
  simp only [List.drop_drop] at h1
  rwa [show j-1+1=j+1-1 by omega] at h1
theorem CptB.next {l c:List Px}{k j:Nat}(h:CptB l c k j){x y:Px}(hx:l[j]?=some x)(hy:l[j-1]?=some y)(hne:y≠x):CptB l (c.set k x) (k+1) (j+1) where
 len:=by simp [h.len]
 k0:=Nat.succ_pos _
 kj:=by have:=h.kj;omega
 jl:=(List.getElem?_eq_some_iff.1 hx).1
 done:=by
  have hk:k<c.length:=by rw [h.len];have:=h.kj;have:=h.jl;omega
  rw [nu hx (by have:=h.kj;omega) hy,if_neg hne,←h.done]
  rw [take_add_one,List.getElem?_set_self hk,List.take_set_of_le (le_refl _)];rfl
 left:=by
  have hj:=h.kj
  rw [List.drop_set_of_lt (by omega)]
  have h1:(c.drop (j-1)).drop 1=(l.drop (j-1)).drop 1:=by rw [h.left]
  simp only [List.drop_drop] at h1
  rwa [show j-1+1=j+1-1 by omega] at h1
theorem CptB.stop {l c:List Px}{k:Nat}(h:CptB l c k l.length):c.take k=cO l:=by
 have:=h.done
 rwa [take_length] at this
def oN (x:Px):List Value:= [.int .u32 x.1,.int .i64 x.2]
theorem nM (x:Px):(oN x).length=2:=rfl
theorem Fo (x:Px):∀v∈oN x,v.oneCell'=true:=by
 intro v hv
 simp [oN] at hv
 rcases hv with rfl | rfl<;>rfl
theorem DC (l:List Px):(l.map aK).flatten=(l.flatMap oN).map .val:=by
 induction l with
 |nil=>rfl
 |cons a l ih=>rw [map_cons,flatten_cons,ih,flatMap_cons,map_append];rfl
theorem PW (f h:Nat→Option Nat)(l:List Px):br f h (l.map aK)=l.map aK:=by
 induction l with
 |nil=>rfl
 |cons a l ih=>simp only [map_cons,br,ih];rfl
theorem zo (l:List Px):(l.map aK).flatten.length=l.length*2:=by
 induction l with
 |nil=>rfl
 |cons a l ih=>rw [map_cons,flatten_cons,length_append,ih,length_cons];simp [aK];omega
theorem DD:∀{l:List Px} {k:Nat} {x:Px},l[k]?=some x→(l.map aK).flatten[k*2]?=some (.val (.int .u32 x.1))∧(l.map aK).flatten[k*2+1]?=some (.val (.int .i64 x.2))
 |[],k,x,h=>by simp at h
 |a::l,0,x,h=>by simp at h;subst h;simp [aK]
 |a::l,k+1,x,h=>by
  have ih:=DD (l:=l) (k:=k) (x:=x) (by simpa using h)
  rw [show (k+1)*2=k*2+2 by omega]
  simp only [map_cons,flatten_cons,aK,cons_append,nil_append,List.getElem?_cons_succ]
  exact ih
theorem Fp (x:Px):∀{l:List Px} {k:Nat},k<l.length→bs (l.map aK).flatten (k*2) (aK x)=((l.set k x).map aK).flatten
 |[],k,h=>by simp at h
 |a::l,0,_=>by simp [bs,aK]
 |a::l,k+1,h=>by
  have ih:=Fp x (l:=l) (k:=k) (by simpa using h)
  simp only [set_cons_succ,map_cons,flatten_cons,←ih]
  rw [show (k+1)*2=k*2+2 by omega]
  simp [bs,aK,show k*2+2+2=k*2+2+1+1 from rfl]
theorem AH:∀(l:List Px),dh 2 l.length (l.map aK).flatten=l.map aK
 |[]=>rfl
 |a::l=>by
  simp only [length_cons,dh,map_cons,flatten_cons]
  have h:=AH l
  simp only [aK] at*
  simp [h]
theorem My {cs:List TV}{d:List Px}{k:Nat}(hk:d.length=k)(h:cs.take (k*2)=(d.map aK).flatten):bL ⟨[.row cs],[]⟩ 2 (.row 2 0 0 k)=some (d.map aK):=by
 subst hk
 have hle:d.length*2≤cs.length:=by
  have:=congrArg length h
  rw [zo,length_take] at this
  omega
 have h1:ble ((0+d.length)*2) cs.length=true:=ble_eq_true_of_le (by omega)
 simp only [bL,getElem?_cons_zero,h1,beq_refl,Bool.and_self,cond_true,Nat.zero_mul,List.drop_zero,h,AH]
theorem HF {cs zs:List TV}{n:Nat}(h:n≤cs.length):(bs cs n zs).take n=cs.take n:=by
 simp only [bs]
 rw [List.append_assoc,List.take_append_of_le_length (by simp;omega),List.take_take]
 simp
end
--PRRef
section
open Go.RowKit
theorem eB:prog.follows .mixedOrders=true:=by kernel_rfl
theorem dO:eQ prog=true:=by kernel_rfl
theorem lZ:∃inf:TypeInfo,prog.info? 94=some inf∧inf.size=2∧inf.bytes+1≤1000∧inf.zero=some tQ:=
 ⟨(prog.info? 94).getD default,by kernel_rfl,by kernel_rfl,Nat.le_of_ble_eq_true (by kernel_rfl),by kernel_rfl⟩
end
--PRCpt
section
open Go.RowKit
theorem J0 (n j:Nat)(cs:List TV)(a1 n1 a2 n2:Int)(Q:Exit→List TV→VT→List Nat→Nat→Prop):vx prog ae bo (HD [(999999,.dead,none),(18,.ptr 0 (j*2),none),(19,.agg (qH a1 n1),none),(23,.ptr 0 ((j-1)*2),none),(24,.agg (qH a2 n2),none),(28,.dead,none)] n) 300 aU none 0 (cC prog jM 0) (aI 61 AF (Dx n j)) ⟨[.row cs],[]⟩ [] (dw AF Q)=
 (bif decide ((↑j:Int)<(↑n:Int))
 then (aS prog (λ_=>.none) (.indexAddr 70 (.tmp 16) (.tmp 17)) [(16,(.row 2 0 0 (n))),(17,(.val (.int .i64 ((↑j:Int)))))] (.ptr 0 (j*(2:Nat)))∧
 (aS prog (λ_=>.none) (.indexAddr 70 (.tmp 20) (.tmp 22)) [(20,(.row 2 0 0 (n))),(22,(.val (.int .i64 (wrap i64 ((↑j:Int)-(1:Int))))))] (.ptr 0 ((j-(1:Nat))*(2:Nat)))∧
 (mh prog (λ_=>.none) ⟨[(.row (cs))],[]⟩ false (.load 94 (.tmp 18)) [(18,(.ptr 0 (j*(2:Nat))))] (.agg [(.val (.int .u32 (a1))),(.val (.int .i64 (n1)))])∧
 (mh prog (λ_=>.none) ⟨[(.row (cs))],[]⟩ false (.load 94 (.tmp 23)) [(23,(.ptr 0 ((j-(1:Nat))*(2:Nat))))] (.agg [(.val (.int .u32 (a2))),(.val (.int .i64 (n2)))])∧
 (bif av eql (aq ((λvs=>Value.agg (toArray vs)) ((λx=>Value.int u32 a1::x) ((λx=>Value.int i64 n1::x) []))) ((λvs=>Value.agg (toArray vs)) ((λx=>Value.int u32 a2::x) ((λx=>Value.int i64 n2::x) []))))
 then (aS prog (λ_=>.none) (.slice 70 (.tmp 26) (.some (.tmp 27)) .none .none) [(26,(.row 2 0 0 (n))),(27,(.val (.int .i64 ((↑j:Int)))))] .dead∧
 False)
 else Q .normal [(.row 2 0 0 (n)),(.val (.slice .none 0 0)),(.val (.int .i64 (wrap i64 ((↑j:Int)+(1:Int)))))] ⟨[(.row (cs))],[]⟩ [] 61)))))
 else Q (.exit 0) [(.row 2 0 0 (n)),(.val (.slice .none 0 0)),(.val (.int .i64 ((↑j:Int))))] ⟨[(.row (cs))],[]⟩ [] 61):=by kernel_rfl
theorem DE {cs:List TV}{q:Nat}{a b:TV}(h1:cs[q]?=some a)(h2:cs[q+1]?=some b):(cs.drop q).take 2= [a,b]∧q+2≤cs.length:=by
 have l2:=(List.getElem?_eq_some_iff.1 h2).1
 refine ⟨?_,by omega⟩
 obtain ⟨hq,e1⟩:=List.getElem?_eq_some_iff.1 h1
 obtain ⟨_,e2⟩:=List.getElem?_eq_some_iff.1 h2
 rw [List.drop_eq_getElem_cons hq,List.drop_eq_getElem_cons l2,e1,e2]
 rfl
theorem jk {x i:Operand}{l:List (Nat × TV)}{off n j q:Nat}{k:IntKind}{z:Int}(hx:aA (λ_=>none) l x=.row 2 0 off n)(hz:aA (λ_=>none) l i=.val (.int k z))(hj:z=(j:Int))(hn:j<n)(hq:off*2+j*2=q):
  aS prog (λ_=>none) (.indexAddr 70 x i) l (.ptr 0 q):=by
 obtain ⟨inf,i_at,i_size,_,_⟩:=lZ
 subst hj
 have h:=sT (inf:=inf) (P:=prog) (G:=λ_=>none) (x:=x) (i:=i) (l:=l) underlying70 i_at (by rw [i_size];exact hx) hz (Int.natCast_nonneg j) (by omega)
 rw [i_size,toNat_natCast,hq] at h
 exact h
theorem nN {c:List Px}{a:Operand}{l:List (Nat × TV)}{k q:Nat}{p:Px}(ha:aA (λ_=>none) l a=.ptr 0 q)(hq:k*2=q)(hk:c[k]?=some p):
  mh prog (λ_=>none) ⟨[.row (c.map aK).flatten],[]⟩ false (.load 94 a) l (.agg [.val (.int .u32 p.1),.val (.int .i64 p.2)]):=by
 obtain ⟨inf,i_at,i_size,_,_⟩:=lZ
 subst hq
 obtain ⟨f1,f2⟩:=DD hk
 obtain ⟨hd,hl⟩:=DE f1 f2
 refine .mk ?_
 have hc:=vC (T:=⟨[.row (c.map aK).flatten],[]⟩) (id:=0) (off:=k*2) (n:=2) rfl hl
 rw [hd] at hc
 have hag:∃d,prog.underlying 94=some d∧kS d=true:=⟨_,Tryz.underlying94,rfl⟩
 obtain ⟨d,hu,hda⟩:=hag
 have h1:aW prog (.load 94 a) (aA (λ_=>none) l)=none:=by simp [aW,cN]
 have h2:aY prog ⟨[.row (c.map aK).flatten],[]⟩ (.load 94 a) (aA (λ_=>none) l)=some (.agg [.val (.int .u32 p.1),.val (.int .i64 p.2)]):=by
  simp [aY,cM,jp,hu,i_at,i_size,hda,ha,hc]
 simp only [qj,h1,h2,cond_false]
theorem Mz {c:List Px}{a:Operand}{l:List (Nat × TV)}{k q:Nat}{p:Px}(ha:aA (λ_=>none) l a=.ptr 0 q)(hq:k*2=q)(hk:c[k]?=some p):
  bp prog (λ_=>none) 0 ⟨[.row (c.map aK).flatten],[]⟩ (.load 94 a) l (.agg [.val (.int .u32 p.1),.val (.int .i64 p.2)]) ⟨[.row (c.map aK).flatten],[]⟩:=by
 obtain ⟨inf,i_at,i_size,_,_⟩:=lZ
 subst hq
 obtain ⟨f1,f2⟩:=DD hk
 obtain ⟨hd,hl⟩:=DE f1 f2
 exact Eh (inf:=inf) Tryz.underlying94 rfl i_at ha rfl (by rw [i_size];exact hl) (by rw [i_size];exact hd)
theorem MA {c:List Px}{a x:Operand}{l:List (Nat × TV)}{k q:Nat}{p:Px}(ha:aA (λ_=>none) l a=.ptr 0 q)(hq:k*2=q)(hx:aA (λ_=>none) l x=.agg [.val (.int .u32 p.1),.val (.int .i64 p.2)])(hk:k<c.length):
  bp prog (λ_=>none) 0 ⟨[.row (c.map aK).flatten],[]⟩ (.store 94 a x) l (.val undef) ⟨[.row (bs (c.map aK).flatten q (qH p.1 p.2))],[]⟩:=by
 obtain ⟨inf,i_at,i_size,_,_⟩:=lZ
 subst hq
 have hl:=zo c
 exact Cl (T:=⟨[.row (c.map aK).flatten],[]⟩) (new:=qH p.1 p.2) (inf:=inf) i_at ha (by rw [hx];rfl) rfl (by rw [i_size];rfl) (by simp only [qH,length_cons,length_nil];omega) rfl (zero_le _)
def SQ (l:List Px)(k:Nat)(cs:List TV):Prop:=∃c,CptB l c k l.length∧cs=(c.map aK).flatten
def Fq (l:List Px)(k:Nat)(cs:List TV):Prop:=k=(cO l).length∧cs.take (k*2)=((cO l).map aK).flatten
theorem tT (k:Nat):∀c:List Px,(c.map aK).flatten.take (k*2)=((c.take k).map aK).flatten:=by
 induction k with
 |zero=>intro c;simp
 |succ k ih=>
  intro c
  cases c with
  |nil=>simp
  |cons a c=>
   rw [show (k+1)*2=k*2+1+1 by omega]
   simp only [map_cons,flatten_cons,aK,cons_append,nil_append,take_succ_cons]
   rw [ih c]
theorem PX (l:List Px)(hl:l.length≤20000)(j:Nat)(c0:List Px)(h0:CptB l c0 j (j+1)):dy prog ae (SK l.length j (c0.map aK).flatten (SQ l) (aE prog jM 2)):=bO λq hq=>by
 obtain rfl:=mem_singleton.1 hq
 refine cd λK hK=> ?_
 let sl:Nat × Nat × List Px→List TV:=λs=>wv l.length j s.1 s.2.1
 let TT:Nat × Nat × List Px→VT:=λs=>⟨[.row (s.2.2.map aK).flatten],[]⟩
 let Post:Exit→List TV→VT→Prop:=λe vs T=>e=.normal∧∃k cs,SQ l k cs∧vs=wv l.length j k ((l.length-j:Nat):Int)∧T=⟨[.row cs],[]⟩
 refine dM (f:=jM) (id:=2) (by kernel_rfl) 61 Dy (λs=>l.length-s.2.1) sl TT (λs=>CptB l s.2.2 s.1 (j+s.2.1)∧1≤s.2.1) 1 0 (λ_ _=>⟨le_refl _,le_refl _⟩)
  Post (λs hs=> ?_) (j,1,c0) ⟨h0,le_refl _⟩ K (λe vs T ⟨h1,k,cs,h2,h3,h4⟩=> ?_)
 ·obtain ⟨k,m,c⟩:=s
  obtain ⟨hc,hm⟩:=hs
  simp only at hc hm
  have hjl:=hc.jl
  have hkj:=hc.kj
  have hcl:=hc.len
  by_cases hlt:j+m<l.length
  ·have hx:=getElem?_eq_getElem hlt
   generalize l[j+m]=x at hx
   have hlt2:j+m-1<l.length:=by omega
   have hy:=getElem?_eq_getElem hlt2
   generalize l[j+m-1]=y at hy
   have cx:c[j+m]?=some x:=by rw [hc.at (by omega)];exact hx
   have cy:c[j+m-1]?=some y:=by rw [hc.at (le_refl _)];exact hy
   refine bU eB dO ai ag (JY l.length j k m (c.map aK).flatten x.1 x.2 y.1 y.2 _) ?_
   have hwm:=up m (by omega)
   have hwk:=up k (by omega)
   have hwm1:wrap .i64 ((m:Int)-1)=((m-1:Nat):Int):=by
    simp only [wrap,IntKind.bits,signed];simp;omega
   refine bd (by simp;omega) ⟨jk rfl rfl rfl (by omega) rfl,jk rfl rfl hwm1 (by omega) rfl,nN (k:=j+m) rfl (by omega) cx,nN (k:=j+m-1) rfl (by omega) cy,am (λhe=> ?_) (λhe=> ?_)⟩
   ·have he:y≠x:=λh=>by subst h;simp [av,aq,dH,cl] at he
    refine ⟨jk rfl rfl rfl (by omega) rfl,Mz (k:=j+m) rfl (by omega) cx,jk rfl rfl rfl (by omega) (by simp),MA (k:=k) rfl rfl rfl (by omega),rfl,rfl,(k+1,m+1,c.set k x),⟨hc.next hx hy he,by simp⟩,by simp only;omega,.inl ⟨?_,?_⟩⟩
    ·simp only [TT,←Fp x (show k<c.length by omega)]
     rfl
    ·simp only [sl,wv,hwk,hwm]
   ·have he:y=x:=by
     have:x.1=y.1∧x.2=y.2:=by simpa [av,aq,dH,cl] using he
     exact (ext this.1 this.2).symm
    subst he
    refine ⟨rfl,rfl,(k,m+1,c),⟨hc.same hx hy,by simp⟩,by simp only;omega,.inl ⟨rfl,?_⟩⟩
    simp only [sl,wv,hwm]
  ·have hjm:j+m=l.length:=by omega
   refine bU eB dO ai ag (JY l.length j k m (c.map aK).flatten 0 0 0 0 _) ?_
   refine bg (by simp;omega) ⟨rfl,rfl,?_⟩
   show Post .normal _ _
   rw [hjm] at hc
   exact ⟨rfl,k,_,⟨c,hc,rfl⟩,by rw [show ((l.length-j:Nat):Int)=(m:Int) by omega];rfl,rfl⟩
 ·subst h1 h3 h4
  exact hK k cs h2
theorem SR (l:List Px)(hl:l.length≤20000)(h1l:1≤l.length):VCx prog ae 0 jM [.row 2 0 0 l.length] ⟨[.row (l.map aK).flatten],[]⟩ λx T'=>∃k cs,Fq l k cs∧x=.row 2 0 0 k∧T'=⟨[.row cs],[]⟩:=by
 obtain ⟨inf,i_at,i_size,i_bytes,i_zero⟩:=lZ
 have hL:dy prog ae (SJ l.length (l.map aK).flatten (cO l=l) (Fq l) (aE prog jM 0)):=bO λq hq=>by
  obtain rfl:=mem_singleton.1 hq
  refine cd λK hK=> ?_
  obtain ⟨hK0,hK1⟩:=hK
  let sl:Nat→List TV:=λj=>Dx l.length j
  let TT:VT:=⟨[.row (l.map aK).flatten],[]⟩
  let Post:Exit→List TV→VT→Prop:=λe vs T=>(e=.normal∧cO l=l∧vs=Dx l.length l.length∧T=TT)∨(e=.ret∧∃(k:Nat) (cs:List TV),Fq l k cs∧vs= [.row 2 0 0 l.length,.row 2 0 0 k,.val (.int .i64 (k:Int))]∧T=⟨[.row cs],[]⟩)
  refine dM (f:=jM) (id:=0) (by kernel_rfl) 61 AF (λj=>l.length-j) sl (λ_=>TT) (λj=>1≤j∧j≤l.length∧cO (l.take j)=l.take j) 1 0 (λ_ _=>⟨le_refl _,le_refl _⟩)
   Post (λj hj=> ?_) 1 ⟨le_refl _,h1l,Ei h1l⟩ K (λe vs T h=> ?_)
  ·obtain ⟨hj1,hjl,hcj⟩:=hj
   by_cases hlt:j<l.length
   ·have hx:=getElem?_eq_getElem hlt
    generalize l[j]=x at hx
    have hlt2:j-1<l.length:=by omega
    have hy:=getElem?_eq_getElem hlt2
    generalize l[j-1]=y at hy
    have hw:=up j (by omega)
    have hw1:wrap .i64 ((j:Int)-1)=((j-1:Nat):Int):=by
     simp only [wrap,IntKind.bits,signed];simp;omega
    have pre:aS prog (λ_=>none) (.indexAddr 70 (.tmp 16) (.tmp 17)) [(16,.row 2 0 0 l.length),(17,.val (.int .i64 (j:Int)))] (.ptr 0 (j*2)):=jk rfl rfl rfl hlt (by simp)
    by_cases he:x=y
    ·subst he
     refine bU eB dO ai (PX l hl j l (CptB.start hj1 hx hy hcj)) (SM l.length j (l.map aK).flatten x.1 x.2 x.1 x.2 (SQ l) _) ?_
     refine bd (by simpa using hlt) ⟨pre,jk rfl rfl hw1 (by omega) (by simp),nN rfl rfl hx,nN rfl rfl hy,bd (by simp [av,aq,dH,cl]) ⟨?_,rfl,⟨rfl,rfl,rfl,trivial,rfl,rfl,rfl⟩,λk cs' hd=> ?_⟩⟩
     ·have h:=AD (inf:=inf) (P:=prog) (G:=λ_=>none) (x:=.tmp 26) (i:=.tmp 27) (l:= [(26,.row 2 0 0 l.length),(27,.val (.int .i64 (j:Int)))]) (id:=0) (off:=0) (n:=l.length) (k:=.i64) (z:=j) underlying70 i_at (by rw [i_size];rfl) rfl hj1 hlt
      rw [i_size,zero_add] at h
      exact h
     ·obtain ⟨c,hc,rfl⟩:=hd
      have hk0:=hc.k0
      have hkl:=hc.kj
      have hcl:=hc.len
      have hfl:=zo c
      have hst:=hc.stop
      rw [toNat_natCast]
      refine ⟨?_,?_,?_,rfl,rfl,.inr ⟨rfl,k,_,?_,rfl,rfl⟩⟩
      ·have h:=AD (inf:=inf) (P:=prog) (G:=λ_=>none) (x:=.tmp 54) (i:=.tmp 55) (l:= [(54,.row 2 0 0 l.length),(55,.val (.int .i64 (k:Int)))]) (id:=0) (off:=0) (n:=l.length) (k:=.i64) (z:=k) underlying70 i_at (by rw [i_size];rfl) rfl hk0 hkl
       rw [i_size,zero_add] at h
       exact h
      ·have h:=Dw (inf:=inf) (P:=prog) (G:=λ_=>none) (ro:=0) (T:=⟨[.row (c.map aK).flatten],[]⟩) (x:=.tmp 56) (l:= [(56,.row 2 0 k (l.length-k))]) (z:=tQ) (id:=0) (off:=k) (n:=l.length-k) (cs:=(c.map aK).flatten) underlying70 i_at i_zero (by rw [i_size];rfl) rfl (by rw [i_size];rfl) rfl (by omega) (by rw [i_size];omega) (zero_le _)
       rw [i_size] at h
       exact h
      ·have h:=JT (inf:=inf) (P:=prog) (G:=λ_=>none) (x:=.tmp 57) (i:=.tmp 58) (l:= [(57,.row 2 0 0 l.length),(58,.val (.int .i64 (k:Int)))]) (id:=0) (off:=0) (n:=l.length) (k:=.i64) (z:=k) underlying70 i_at (by rw [i_size];rfl) rfl (by omega)
       rw [i_size] at h
       exact h
      ·have hlen:(cO l).length=k:=by rw [←hst,length_take];omega
       refine ⟨hlen.symm,?_⟩
       show (bs (c.map aK).flatten (k*2) _).take (k*2)=_
       rw [HF (by omega),tT,hst]
    ·refine bU eB dO ai ag (J0 l.length j (l.map aK).flatten x.1 x.2 y.1 y.2 _) ?_
     refine bd (by simpa using hlt) ⟨pre,jk rfl rfl hw1 (by omega) (by simp),nN rfl rfl hx,nN rfl rfl hy,bg ?_ ⟨rfl,rfl,j+1,⟨by omega,hlt,?_⟩,by simp only;omega,.inl ⟨rfl,?_⟩⟩⟩
     ·simp [av,aq,dH,cl]
      exact λh1 h2=>he (ext h1 h2)
     ·rw [nu hx hj1 hy,if_neg (λh=>he h.symm),hcj,take_add_one,hx];rfl
     ·simp only [sl,Dx,hw]
   ·obtain rfl:j=l.length:=by omega
    refine bU eB dO ai ag (J0 l.length l.length (l.map aK).flatten 0 0 0 0 _) ?_
    rw [take_length] at hcj
    refine bg (by simp) ⟨rfl,rfl,?_⟩
    show Post .normal _ _
    exact .inl ⟨rfl,hcj,rfl,rfl⟩
  ·rcases h with ⟨rfl,h2,rfl,rfl⟩ | ⟨rfl,k,cs,h2,rfl,rfl⟩
   ·exact hK0 h2
   ·exact hK1 k cs h2
 refine aj eB dO ai hL (UN l.length (l.map aK).flatten (cO l=l) (Fq l) _) ?_
 refine am (λh=> ?_) (λh=>⟨rfl,⟨rfl,rfl,rfl,trivial,rfl,rfl,rfl⟩,λh=> ?_,λk cs h=>⟨k,cs,h,rfl,rfl⟩⟩)
 ·have h2:l.length<2:=by
   have:(l.length:Int)<2:=by simpa using h
   omega
  have e:cO l=l:=by
   match l,h2 with
   |[],_=>rfl
   |[a],_=>rfl
  exact ⟨l.length,_,⟨by rw [e],by rw [e,tT,take_length]⟩,rfl,rfl⟩
 ·exact ⟨l.length,_,⟨by rw [h],by rw [h,tT,take_length]⟩,rfl,rfl⟩
end
--PRSort
section
open Go.RowKit Go.Sort Go.Shelf
abbrev Wm:=57
theorem ST (blk off size:Nat)(w:World):CmpLays prog 58 #[] oN 2 qI blk off size w:=
 λ_ _ _ _ x y=>(Mw x y _).mono λ_ _ ⟨he,hg⟩=>⟨he,hg.grow⟩
theorem J1 {G:aP}(l:List Px)(hl:l.length<4611686018427387904):VCx prog G 0 Wm [.row 2 0 0 l.length,.fn (.func 58) [] []] ⟨[.row (l.map aK).flatten],[]⟩ λx T'=>x=.val (.tuple #[])∧T'=⟨[.row ((gt l).map aK).flatten],[]⟩:=by
 rw [DC,DC]
 intro g w us r hG hx
 match us,hx.1 with
 |[u,f],_=>
  obtain ⟨b,c,f1,f2,f3,f4,f5,rfl⟩:=(hx.2 0 _ u rfl rfl).row_inv
  obtain ⟨us,vs,rfl,h3,h4⟩:=(hx.2 1 _ f rfl rfl).fn_inv
  have e3:us= []:=List.eq_nil_of_length_eq_zero h3.1
  have e4:vs= []:=List.eq_nil_of_length_eq_zero h4.1
  subst e3 e4
  obtain ⟨b',q1,⟨us,ty,q2,q3,q4,q5⟩,_⟩:=r.obj 0 _ rfl rfl
  rw [f1] at q1;injection q1 with q1;subst q1
  have hfix:∀(T':VT) (w':World),T'.objs.length=1→Fix 0 g ⟨[.row ((l.flatMap oN).map .val)],[]⟩ w T' w':=λT' w' h=>⟨by simp [h],λi hi=>absurd hi (Nat.not_lt_zero i),λi o b hi=>absurd hi (Nat.not_lt_zero i)⟩
  rcases Nat.eq_zero_or_pos l.length with h0 | hpos
  ·have:l= []:=List.eq_nil_of_length_eq_zero h0
   subst this
   refine (AnyF.slices_SortFunc_none Tryz.sortPx (some ⟨b,0*2,none⟩) c _ w).mono λe w' ⟨he,hw⟩=> ?_
   subst hw
   exact ⟨.tuple #[],_,g,_,he,⟨rfl,by simp [gt]⟩,Evo.refl _ _,r,.val _,hfix _ _ rfl⟩
  ·have hcs:=bG q2
   rw [List.size_toArray] at hcs
   have hul:us.length=c*2:=by rw [←hcs,←f5];omega
   have htk:us.take (l.length*2)=l.flatMap oN:=by
    have hlen:((l.flatMap oN).map TV.val).length=l.length*2:=by rw [length_map,oK oN 2 nM]
    rw [hlen] at q4
    exact Aa (by simp [cL,Function.comp_def]) q4
   have hown:w.ownsRow 0 ty 2 (.slice (some ⟨b,0,none⟩) l.toArray.size c) l.toArray.size (l.toArray.toList.flatMap oN):=by
    refine ⟨by simp [oK oN 2 nM],.inr ⟨b,c,us.toArray,by simp,zero_le _,q2,by simpa using f3,f4,by simpa using hul,?_⟩⟩
    simpa [oK oN 2 nM] using htk
   obtain ⟨g',cap',hv,hb',hg',hH⟩:=JU oN 2 nM l.toArray hown (by simpa using hpos)
   injection hv with p1 _ p3
   injection p1 with p1;injection p1 with p1
   subst p1 p3
   have hs:l.toArray.size<4611686018427387904:=by simpa using hl
   have eg:∀args w,(callFunc 58 args).run prog w=.ok (.enter 58 args) w:=enters_of func58 (by kernel_rfl) rfl
   have hcon:=AnyQ.slices_SortFunc_total Tryz.sortPx 2 Tryz.isAgg94 Tryz.sizeOf94 oN nM Fo qI SP 58 #[] b 0 c l.toArray w eg (ST b 0 _ w) hH hg' hs Mx
   refine Calls.mono hcon λ_ _ ⟨he,n,os,hw⟩=> ?_
   obtain ⟨e1,r1⟩:=Mr oN 2 nM Fo (l:=l) (l':=gt l) (AG l) r rfl f1 hw
   exact ⟨.tuple #[],_,g,_,he,⟨rfl,rfl⟩,e1,r1,.val _,hfix _ _ rfl⟩
end
--PRL
section
open Go.RowKit
theorem PY (l:List Px)(hl:l.length≤20000)(h1:l≠ []):VCx prog ae 0 Mt [.vec 2 (l.map aK) .none] ⟨[],[]⟩ λx T'=>x=.row 2 0 0 l.length∧T'=⟨[.row (l.map aK).flatten],[]⟩:=by
  obtain ⟨inf,i_at,i_size,i_bytes,i_zero⟩:=lZ
  cases l with
  |nil=>exact absurd rfl h1
  |cons p l=>
    have hlen:(l.map aK).length=l.length:=length_map _
    refine aj eB dO ai ag (UM (aK p) (l.map aK) _) ⟨?_,?_⟩
    · have h:=Gv (inf:=inf) (P:=prog) (G:=λ_=>none) (ro:=0) (T:=⟨[],[]⟩) (tx:=70) (s:=.tmp 5) (x:=.tmp 6) (l:= [(5,.vec 2 [] .full),(6,.vec 2 ([aK p]++l.map aK) .none)]) (q0:=aK p) (qs:=l.map aK) (tok:=.none) underlying70 i_at i_zero (by rw [i_size];rfl) rfl (by kernel_rfl) (by rw [i_size];rfl) (by rw [i_size];rfl)
        (by have h1:=i_bytes
            have h2:(aK p::l.map aK).length≤20000:=by simpa using hl
            have h3:=Nat.mul_le_mul h2 h1
            omega)
      rw [i_size] at h
      exact h
    · exact ⟨by simp,rfl⟩
theorem SU (l:List Px)(hl:l.length≤20000)(h1:l≠ []):bu prog ae (SL True (l.map aK) l.length (l.map aK).flatten ((gt l).map aK).flatten (Fq (gt l))):=aZ λq hq=>by
 have hlp:1≤l.length:=by
  cases l with
  |nil=>exact absurd rfl h1
  |cons a l=>simp
 simp only [mem_cons,not_mem_nil,or_false] at hq
 rcases hq with rfl | rfl | rfl
 ·rintro ro ys T K ⟨⟨rfl,rfl,rfl⟩,_,hk⟩
  exact (PY l hl h1).mono λx T' ⟨h2,h3⟩=>by subst h2 h3;exact hk
 ·rintro ro ys T K ⟨⟨rfl,rfl,rfl⟩,_,hk⟩
  exact (J1 l (by omega)).mono λx T' ⟨h2,h3⟩=>by subst h2 h3;exact hk
 ·rintro ro ys T K ⟨⟨rfl,rfl,rfl⟩,hk⟩
  have hs:=AG l
  have h:=SR (gt l) (by omega) (by omega)
  rw [hs] at h
  exact h.mono λx T' ⟨k,cs,hd,h2,h3⟩=>by subst h2 h3;exact hk k cs hd
theorem PZ (l:List Px)(hl:l.length≤20000):VCx prog ae 0 Mu [.vec 2 (l.map aK) .none] ⟨[],[]⟩ λx T'=>x=.vec 2 ((cO (gt l)).map aK) .none∧T'=⟨[],[]⟩:=by
 refine VCx.toVec (λf h=>PW f h _) ?_
 by_cases h1:l= []
 ·subst h1
  have e:cO (gt [])= []:=by simp [gt,cO]
  rw [e]
  refine aj eB dO ai ag (SN _) ⟨.inl ⟨rfl,rfl⟩,.inr (.inl ⟨_,rfl⟩)⟩
 ·refine aj eB dO (SU l hl h1) ag (SO True (l.map aK) l.length (l.map aK).flatten ((gt l).map aK).flatten (Fq (gt l)) _) ?_
  refine ⟨⟨rfl,rfl,rfl⟩,trivial,⟨rfl,rfl,rfl⟩,trivial,⟨rfl,rfl,rfl⟩,λk cs3 hd=>.inr (.inr ?_)⟩
  obtain ⟨hk,hd⟩:=hd
  simp only [Gu,My hk.symm hd,map_some]
end
section
open Go.RowKit
abbrev gm:=62
abbrev VB:=61
abbrev J2:=38
noncomputable def iP:Code:=match eH (qm prog VB) with
 |some (a,_)=>a
 |none=>.skip
noncomputable def fX:Code:=match eH (qm prog VB) with
 |some (_,b)=>b
 |none=>.skip
def kP:KS:=⟨true,[.int .u32,.int .i64]⟩
def uT:TV:=.val (.tuple #[])
def dA (p:Px):Value:=.agg #[.int .u32 p.1,.int .i64 p.2]
def zp:Value→Px
 | .agg #[.int _ a,.int _ n]=>(a,n)
 |_=>(0,0)
structure MkOk (lk:Value→Option TV) (es:List (Value × TV × Nat)) (ck:Nat):Prop where
 keys:∀e∈es,∃p,e.1=dA p
 born:∀e∈es,e.2.2<ck
 borns:(es.map (·.2.2)).Nodup
 ren:∀f g,VO.ren f g (.map kP lk es ck)=.map kP lk es ck
 few:es.length≤2000000
def sa (es:List (Value × TV × Nat)):List Px:=es.map λe=>zp e.1
def xP:List Px→TV
 |[]=>.val (.slice none 0 0)
 |p::l=>.vec 2 ((p::l).map aK) (.tail 0 (p::l).length)
def tP:List Px→bq
 |[]=> []
 |p::l=> [((p::l).length,2,true)]
def tU (es:List (Value × TV × Nat))(x:TV)(tl:bq):Prop:=∃l:List Px,l.Perm (sa es)∧x=xP l∧tl=tP l
def SV:List TV:= [.val (.slice none 0 0),.fn (.func gm) [] [.ptr 1 0],.ptr 2 0,uT,.val (.slice none 0 0),uT,.fn (.func gm) [] [.ptr 1 0],uT,uT,uT,uT,uT,uT]
noncomputable def ye (lk:Value→Option TV)(es:List (Value × TV × Nat))(ck:Nat)(x:TV)(tl:bq)(seen:List Nat):VT:=⟨[.map kP lk es ck,.cells [.map 0],.cells [x],.defd,.loop .ready none SV #[7] iP fX,.iter (.map 0) ck seen ck],tl⟩
def Wn:List TV:= [.yld 4,.ptr 1 0,.dead,.dead,.map 0,.ptr 5 0]++List.replicate 8 .dead
noncomputable def Wo (enA enN:List Nat→Int)(enV:List Nat→TV):gD:=λ(o:Oper) (_:List TV) (T:VT)=>match o.dst with
 |some 8=>match T.objs[5]? with
  |some (VO.iter _ _ seen _)=>some (.tup [.val (.agg #[.int .u32 (enA seen),.int .i64 (enN seen)]),enV seen],some T)
  |_=>none
 |_=>none
noncomputable def DF (lk:Value→Option TV)(es:List (Value × TV × Nat))(ck:Nat):VT:=⟨[.map kP lk es ck,.cells [.map 0],.cells [.val (.slice none 0 0)],.defd,.loop .ready none SV #[7] iP fX],[]⟩
def SW (es:List (Value × TV × Nat))(T:VT):Prop:=∃lk ck,MkOk lk es ck∧T=DF lk es ck
def SX (es:List (Value × TV × Nat)):be:=λro ys T K=>match ys with
 |[.yld 4,.ptr 1 0]=>(ro=0∧SW es T)∧∀(x:TV) (tl:bq),tU es x tl→K (.tup []) ⟨T.objs.set 2 (.cells [x]),tl⟩
 |_=>aQ 83 default ys
noncomputable def Wp (lx:List Nat→Bs)(tx:List Nat→Tok)(gx:List Nat→bq):gD:=λ(o:Oper) (_:List TV) (T:VT)=>match o.dst with
 |some 11=>match T.objs[5]? with
  |some (VO.iter _ _ seen _)=>some (.vec 2 (lx seen) (tx seen),some {T with tails:=gx seen})
  |_=>none
 |_=>none
def zq:List Nat:= [0,1,4,5]
def AI:List TV:= [.yld 4,.ptr 1 0,.map 0,.ptr 5 0]
noncomputable def V7 (lk:Value→Option TV)(es:List (Value × TV × Nat))(ck:Nat)(c0:Code):Nat→Option (bW × Code):=bX [(0,gn 14 zq [] AI (ye lk es ck (.val (.slice none 0 0)) [] []) (λK=>∀(x:TV) (tl:bq) (seen:List Nat),tU es x tl→K .normal (aI 14 zq AI) (ye lk es ck x tl seen) []),c0)]
theorem UP (lk:Value→Option TV)(es:List (Value × TV × Nat))(ck:Nat)(x1:TV)(lx:List Nat→Bs)(tx:List Nat→Tok)(gx:List Nat→bq)(tl:bq)(seen:List Nat)(eA eN:List Nat→Int)(eV:List Nat→TV)(Q:Exit→List TV→VT→List Nat→Nat→Prop):vx prog ae bo (Wo eA eN eV) 300 (zl 1000001 (Np 5 6 7,cj prog gm 1) 1000003 (zk prog ae bo (Wp lx tx gx) 250 (cj prog gm 3),cj prog gm 3)) none 0 (cC prog gm 0) Wn (ye lk es ck x1 tl seen) [] (dw zq Q)=
 ((cj prog gm (1:Nat)=cj prog gm (1:Nat))∧
 (((@Eq (Bool) true true)∧
 ((@Eq (Bool) (j8 seen ck es) false)∧
 (@Eq (Bool) true true)))∧
 ((Hz (ck) (seen) (es)→Q (.exit 0) [(.yld 4),(.ptr 1 0),(.map 0),(.ptr 5 0)] ⟨[(.map ⟨true,[(.int .u32),(.int .i64)]⟩ (lk) (es) (ck)),(.cells [(.map 0)]),(.cells [(x1)]),.defd,(.loop .ready .none [(.val (.slice .none 0 0)),(.fn (.func 62) [] [(.ptr 1 0)]),(.ptr 2 0),(.val (.tuple #[])),(.val (.slice .none 0 0)),(.val (.tuple #[])),(.fn (.func 62) [] [(.ptr 1 0)]),(.val (.tuple #[])),(.val (.tuple #[])),(.val (.tuple #[])),(.val (.tuple #[])),(.val (.tuple #[])),(.val (.tuple #[]))] #[7] iP fX),(.iter (.map 0) (ck) (seen) (ck))],(tl)⟩ [] 14)∧
 (∀k:Value,(∀v:TV,(∀s:Nat,(HA (k) (v) (s) (ck) (seen) (es)→(bp prog (λ_=>.none) 0 ⟨[(.map ⟨true,[(.int .u32),(.int .i64)]⟩ (lk) (es) (ck)),(.cells [(.map 0)]),(.cells [(x1)]),.defd,(.loop .ready .none [(.val (.slice .none 0 0)),(.fn (.func 62) [] [(.ptr 1 0)]),(.ptr 2 0),(.val (.tuple #[])),(.val (.slice .none 0 0)),(.val (.tuple #[])),(.fn (.func 62) [] [(.ptr 1 0)]),(.val (.tuple #[])),(.val (.tuple #[])),(.val (.tuple #[])),(.val (.tuple #[])),(.val (.tuple #[])),(.val (.tuple #[]))] #[7] iP fX),(.iter (.map 0) (ck) (seen++ [s]) (ck))],(tl)⟩ (.entry (.tmp 5)) [(5,(.ptr 5 0))] (.tup [(.val (.agg #[(.int .u32 (eA (seen++ [s]))),(.int .i64 (eN (seen++ [s])))])),(eV (seen++ [s]))]) ⟨[(.map ⟨true,[(.int .u32),(.int .i64)]⟩ (lk) (es) (ck)),(.cells [(.map 0)]),(.cells [(x1)]),.defd,(.loop .ready .none [(.val (.slice .none 0 0)),(.fn (.func 62) [] [(.ptr 1 0)]),(.ptr 2 0),(.val (.tuple #[])),(.val (.slice .none 0 0)),(.val (.tuple #[])),(.fn (.func 62) [] [(.ptr 1 0)]),(.val (.tuple #[])),(.val (.tuple #[])),(.val (.tuple #[])),(.val (.tuple #[])),(.val (.tuple #[])),(.val (.tuple #[]))] #[7] iP fX),(.iter (.map 0) (ck) (seen++ [s]) (ck))],(tl)⟩∧
 ((cj prog gm (3:Nat)=cj prog gm (3:Nat))∧
 (bp prog (λ_=>.none) 0 ⟨[(.map ⟨true,[(.int .u32),(.int .i64)]⟩ (lk) (es) (ck)),(.cells [(.map 0)]),(.cells [(x1)]),.defd,(.loop .busy .none [(.val (.slice .none 0 0)),(.fn (.func 62) [] [(.ptr 1 0)]),(.ptr 2 0),(.val (.tuple #[])),(.val (.slice .none 0 0)),(.val (.tuple #[])),(.fn (.func 62) [] [(.ptr 1 0)]),(.val (.tuple #[])),(.val (.tuple #[])),(.val (.tuple #[])),(.val (.tuple #[])),(.val (.tuple #[])),(.val (.tuple #[]))] #[7] iP fX),(.iter (.map 0) (ck) (seen++ [s]) (ck)),(.cells [(.val (.int .u32 (eA (seen++ [s])))),(.val (.int .i64 (eN (seen++ [s]))))]),(.cells [(.val (.int .u32 (eA (seen++ [s])))),(.val (.int .i64 (eN (seen++ [s]))))])],(tl)⟩ (.call ⟨(.builtin .append),#[(.tmp 8),(.tmp 10)],#[70,70]⟩) [(8,(x1)),(10,(.vec 2 [[(.val (.int .u32 (eA (seen++ [s])))),(.val (.int .i64 (eN (seen++ [s]))))]] .full))] (.vec 2 (lx (seen++ [s])) (tx (seen++ [s]))) ⟨[(.map ⟨true,[(.int .u32),(.int .i64)]⟩ (lk) (es) (ck)),(.cells [(.map 0)]),(.cells [(x1)]),.defd,(.loop .busy .none [(.val (.slice .none 0 0)),(.fn (.func 62) [] [(.ptr 1 0)]),(.ptr 2 0),(.val (.tuple #[])),(.val (.slice .none 0 0)),(.val (.tuple #[])),(.fn (.func 62) [] [(.ptr 1 0)]),(.val (.tuple #[])),(.val (.tuple #[])),(.val (.tuple #[])),(.val (.tuple #[])),(.val (.tuple #[])),(.val (.tuple #[]))] #[7] iP fX),(.iter (.map 0) (ck) (seen++ [s]) (ck)),(.cells [(.val (.int .u32 (eA (seen++ [s])))),(.val (.int .i64 (eN (seen++ [s]))))]),(.cells [(.val (.int .u32 (eA (seen++ [s])))),(.val (.int .i64 (eN (seen++ [s]))))])],(gx (seen++ [s]))⟩∧
 Q .normal [(.yld 4),(.ptr 1 0),(.map 0),(.ptr 5 0)] ⟨[(.map ⟨true,[(.int .u32),(.int .i64)]⟩ (lk) (es) (ck)),(.cells [(.map 0)]),(.cells [(.vec 2 (lx (seen++ [s])) (tx (seen++ [s])))]),.defd,(.loop .ready .none [(.val (.slice .none 0 0)),(.fn (.func 62) [] [(.ptr 1 0)]),(.ptr 2 0),(.val (.tuple #[])),(.val (.slice .none 0 0)),(.val (.tuple #[])),(.fn (.func 62) [] [(.ptr 1 0)]),(.val (.tuple #[])),(.val (.tuple #[])),(.val (.tuple #[])),(.val (.tuple #[])),(.val (.tuple #[])),(.val (.tuple #[]))] #[7] iP fX),(.iter (.map 0) (ck) (seen++ [s]) (ck)),(.cells [(.val (.int .u32 (eA (seen++ [s])))),(.val (.int .i64 (eN (seen++ [s]))))]),(.cells [(.val (.int .u32 (eA (seen++ [s])))),(.val (.int .i64 (eN (seen++ [s]))))])],(gx (seen++ [s]))⟩ [] 14)))))))))):=by kernel_rfl
theorem UQ (lk:Value→Option TV)(es:List (Value × TV × Nat))(ck:Nat)(Q:TV→VT→Prop):ax prog ae (aT [(gm,SX es)]) aR 300 aU 0 J2 [.fn (.func gm) [] [.ptr 1 0]] ⟨[.map kP lk es ck,.cells [.map 0]],[]⟩ Q=
 (((@Eq (Nat) 0 0)∧
 SW (es) ⟨[(.map ⟨true,[(.int .u32),(.int .i64)]⟩ (lk) (es) (ck)),(.cells [(.map 0)]),(.cells [(.val (.slice .none 0 0))]),.defd,(.loop .ready .none [(.val (.slice .none 0 0)),(.fn (.func 62) [] [(.ptr 1 0)]),(.ptr 2 0),(.val (.tuple #[])),(.val (.slice .none 0 0)),(.val (.tuple #[])),(.fn (.func 62) [] [(.ptr 1 0)]),(.val (.tuple #[])),(.val (.tuple #[])),(.val (.tuple #[])),(.val (.tuple #[])),(.val (.tuple #[])),(.val (.tuple #[]))] #[7] iP fX)],[]⟩)∧
 (∀x:TV,(∀tl:bq,(tU (es) (x) (tl)→Q (x) ⟨[(.map ⟨true,[(.int .u32),(.int .i64)]⟩ (lk) (es) (ck)),(.cells [(.map 0)]),(.cells [(x)]),.gone,(.loop .exhausted .none [(.val (.slice .none 0 0)),(.fn (.func 62) [] [(.ptr 1 0)]),(.ptr 2 0),(.val (.tuple #[])),(.val (.slice .none 0 0)),(.val (.tuple #[])),(.fn (.func 62) [] [(.ptr 1 0)]),(.val (.tuple #[])),(.val (.tuple #[])),(.val (.tuple #[])),(.val (.tuple #[])),(.val (.tuple #[])),(.val (.tuple #[]))] #[7] iP fX)],(tl)⟩)))):=by kernel_rfl
theorem UR (lk:Value→Option TV)(es:List (Value × TV × Nat))(ck:Nat)(Q:TV→VT→Prop):ax prog ae bo aR 300 (V7 lk es ck (aE prog gm 0)) 0 gm [.yld 4,.ptr 1 0] (DF lk es ck) Q=
 ((aE prog gm (0:Nat)=aE prog gm (0:Nat))∧
 (((@Eq (Option Nat) .none .none)∧
 ((@Eq (Nat) 0 0)∧
 ((@Eq (List Nat) [] [])∧
 (True  ∧
 ((@Eq (VT) ⟨[(.map ⟨true,[(.int .u32),(.int .i64)]⟩ (lk) (es) (ck)),(.cells [(.map 0)]),(.cells [(.val (.slice .none 0 0))]),.defd,(.loop .ready .none [(.val (.slice .none 0 0)),(.fn (.func 62) [] [(.ptr 1 0)]),(.ptr 2 0),(.val (.tuple #[])),(.val (.slice .none 0 0)),(.val (.tuple #[])),(.fn (.func 62) [] [(.ptr 1 0)]),(.val (.tuple #[])),(.val (.tuple #[])),(.val (.tuple #[])),(.val (.tuple #[])),(.val (.tuple #[])),(.val (.tuple #[]))] #[7] iP fX),(.iter (.map 0) (ck) [] (ck))],[]⟩ ⟨[(.map ⟨true,[(.int .u32),(.int .i64)]⟩ (lk) (es) (ck)),(.cells [(.map 0)]),(.cells [(.val (.slice .none 0 0))]),.defd,(.loop .ready .none [(.val (.slice .none 0 0)),(.fn (.func 62) [] [(.ptr 1 0)]),(.ptr 2 0),(.val (.tuple #[])),(.val (.slice .none 0 0)),(.val (.tuple #[])),(.fn (.func 62) [] [(.ptr 1 0)]),(.val (.tuple #[])),(.val (.tuple #[])),(.val (.tuple #[])),(.val (.tuple #[])),(.val (.tuple #[])),(.val (.tuple #[]))] #[7] iP fX),(.iter (.map 0) (ck) [] (ck))],[]⟩)∧
 ((@Eq (Bool) true true)∧
 (@Eq (List TV) [(.yld 4),(.ptr 1 0),(.map 0),(.ptr 5 0)] [(.yld 4),(.ptr 1 0),(.map 0),(.ptr 5 0)])))))))∧
 (∀x:TV,(∀tl:bq,(∀seen:List Nat,(tU (es) (x) (tl)→Q (.tup []) ⟨[(.map ⟨true,[(.int .u32),(.int .i64)]⟩ (lk) (es) (ck)),(.cells [(.map 0)]),(.cells [(x)]),.defd,(.loop .ready .none [(.val (.slice .none 0 0)),(.fn (.func 62) [] [(.ptr 1 0)]),(.ptr 2 0),(.val (.tuple #[])),(.val (.slice .none 0 0)),(.val (.tuple #[])),(.fn (.func 62) [] [(.ptr 1 0)]),(.val (.tuple #[])),(.val (.tuple #[])),(.val (.tuple #[])),(.val (.tuple #[])),(.val (.tuple #[])),(.val (.tuple #[]))] #[7] iP fX),(.iter (.map 0) (ck) (seen) (ck))],(tl)⟩)))))):=by kernel_rfl
end
section
open Go.RowKit
theorem DG (p:Px):zp (dA p)=p:=rfl
theorem J3 (l:List Px)(f:Nat→Option Nat):(xP l).ren f (ap 1)=xP l:=by
 cases l with
 |nil=>rfl
 |cons p l=>simp only [xP,TV.ren,eS,Tok.ren];rfl
theorem DH (l:List Px):(tP l).length≤1:=by cases l<;>simp [tP]
theorem SY (l:List Px)(p:Px):xP (l++ [p])=.vec 2 ((l++ [p]).map aK) (.tail 0 (l++ [p]).length):=by cases l<;>rfl
theorem SZ (l:List Px)(p:Px):tP (l++ [p])= [((l++ [p]).length,2,true)]:=by cases l<;>rfl
theorem J4:∃(inf:TypeInfo) (z:Value),prog.info? 94=some inf∧inf.size=2∧inf.bytes+1≤100∧inf.zero=some z∧z.cells.size=2:=
 ⟨(prog.info? 94).getD default,((prog.info? 94).getD default).zero.getD default,by kernel_rfl,by kernel_rfl,Nat.le_of_ble_eq_true (by kernel_rfl),by kernel_rfl,by kernel_rfl⟩
theorem S1 (objs:List VO)(l:List Px)(p:Px)(h:l.length≤2000000):bp prog ae 0 ⟨objs,tP l⟩ (.call ⟨.builtin .append,#[.tmp 8,.tmp 10],#[70,70]⟩) [(8,xP l),(10,.vec 2 [aK p] .full)] (.vec 2 ((l++ [p]).map aK) (.tail 0 (l++ [p]).length)) ⟨objs,tP (l++ [p])⟩:=by
  obtain ⟨inf,z,i1,i2,i3,i4,i5⟩:=J4
  have h1:=fq (inf:=inf) (P:=prog) (G:=ae) (ro:=0) (T:=⟨objs,tP l⟩) (T1:=⟨objs,[(l.length,2,true)]⟩) (t:=70) (tx:=70) (s:=.tmp 8) (x:=.tmp 10) (l:= [(8,xP l),(10,.vec 2 [aK p] .full)]) (es:=l.map aK) (es2:= [aK p]) (k:=0) (n:=l.length) (bn:=true) underlying70 i1 i4 (by rw [i5,i2]) (by rw [i2];omega) (by kernel_rfl)
    (by rw [i2];cases l<;>simp [aA,eF,cR,xP,tP]) (by rw [i2];rfl)
    (by have h1:=i3
        have h2:=Nat.mul_le_mul (show (l.map aK).length+ [aK p].length≤2000001 by simp only [length_map,length_cons,length_nil];omega) h1
        omega)
  rw [i2] at h1
  rw [SZ]
  rw [show (l++ [p]).map aK=l.map aK++ [aK p] by rw [map_append];rfl,show (l++ [p]).length=l.length+ [aK p].length by simp]
  exact h1
section
variable {lk:Value→Option TV}{es:List (Value × TV × Nat)}{ck:Nat}
def ww (es:List (Value × TV × Nat))(s:Nat):Value × TV × Nat:=(es.find? λe=>beq e.2.2 s).getD (.bool false,.dead,0)
def dR (es:List (Value × TV × Nat))(s:Nat):Px:=zp (ww es s).1
theorem DI:∀{es:List (Value × TV × Nat)} {e:Value × TV × Nat},(es.map (·.2.2)).Nodup→e∈es→es.find? (λx=>beq x.2.2 e.2.2)=some e
 |[],_,_,h=>by cases h
 |a::es,e,hn,h=>by
  rw [List.find?_cons]
  rcases mem_cons.1 h with rfl | h
  ·rw [beq_refl]
  ·have hne:beq a.2.2 e.2.2=false:=by
    cases hb:beq a.2.2 e.2.2 with
    |false=>rfl
    |true=>
     have he:=eq_of_beq_eq_true hb
     have:=(nodup_cons.1 hn).1
     exact absurd (by show a.2.2∈_;rw [he];exact mem_map_of_mem (f:=λe:Value × TV × Nat=>e.2.2) h) this
   rw [hne]
   exact DI (nodup_cons.1 hn).2 h
theorem MkOk.lost (h:MkOk lk es ck)(seen:List Nat):j8 seen ck es=false:=by
 unfold j8
 cases es with
 |nil=>simp
 |cons e l=>
  have:=h.born e mem_cons_self
  have h1:decide (ck≤e.2.2)=false:=decide_eq_false (by omega)
  simp [h1]
theorem MkOk.new (h:MkOk lk es ck)(seen:List Nat):jy ck seen es= []:=by
 unfold jy
 refine List.filter_eq_nil_iff.2 λe he=> ?_
 have:=h.born e he
 simp [this]
theorem MkOk.nx (h:MkOk lk es ck){seen:List Nat}{k:Value}{v:TV}{s:Nat}(hx:HA k v s ck seen es):(k,v,s)∈es∧s∉seen:=by
 unfold HA at hx
 rw [h.new,append_nil] at hx
 unfold cQ at hx
 obtain ⟨h1,h2⟩:=List.mem_filter.1 hx
 refine ⟨h1,?_⟩
 simp at h2
 exact h2.1
theorem MkOk.no (h:MkOk lk es ck){seen:List Nat}(hx:Hz ck seen es):∀e∈es,e.2.2∈seen:=by
 intro e he
 have:=List.filter_eq_nil_iff.1 hx e he
 have hb:=h.born e he
 simp [hb] at this
 exact this
def KyInv (es:List (Value × TV × Nat))(seen:List Nat):Prop:=seen.Nodup∧∀s∈seen,s∈es.map (·.2.2)
theorem KyInv.le {seen:List Nat}(h:KyInv es seen):seen.length≤es.length:=by
 have:=h.1.length_le_of_subset (l₂:=es.map (·.2.2)) (λs hs=>h.2 s hs)
 simpa using this
theorem S2 (h:MkOk lk es ck):(es.map (·.2.2)).map (dR es)=sa es:=by
 rw [map_map]
 unfold sa
 refine map_congr_left λe he=> ?_
 show zp (ww es e.2.2).1=_
 rw [ww,DI h.borns he];rfl
theorem KyInv.done (h:MkOk lk es ck){seen:List Nat}(hi:KyInv es seen)(hx:Hz ck seen es):(seen.map (dR es)).Perm (sa es):=by
 rw [←S2 h]
 refine List.Perm.map _ ((List.perm_ext_iff_of_nodup hi.1 h.borns).2 λa=>⟨hi.2 a,λha=> ?_⟩)
 obtain ⟨e,he,rfl⟩:=mem_map.1 ha
 exact h.no hx e he
theorem MkOk.at (h:MkOk lk es ck){k:Value}{v:TV}{s:Nat}(hm:(k,v,s)∈es):k=dA (dR es s)∧v=(ww es s).2.1∧es.find? (λx=>beq x.2.2 s)=some (k,v,s):=by
 have h1:=DI h.borns hm
 obtain ⟨p,hp⟩:=h.keys _ hm
 simp only at h1 hp
 refine ⟨?_,?_,h1⟩
 ·rw [dR,ww,h1,getD_some,hp,DG]
 ·rw [ww,h1,getD_some]
noncomputable def wx (lk:Value→Option TV)(es:List (Value × TV × Nat))(ck:Nat)(seen:List Nat):VT:=ye lk es ck (xP (seen.map (dR es))) (tP (seen.map (dR es))) seen
theorem J5 (h:MkOk lk es ck)(seen:List Nat)(l:List VO):VT.keep ⟨(wx lk es ck seen).objs++l,(wx lk es ck seen).tails⟩ 6 1=wx lk es ck seen:=by
 have e:=h.ren (ap 6) (ap 1)
 have e2:(tP (seen.map (dR es))).take 1=tP (seen.map (dR es)):=List.take_of_length_le (DH _)
 simp only [VT.keep,wx,ye,cons_append,nil_append,take_succ_cons,take_zero,map_cons,map_nil,e,e2]
 simp only [VO.ren,aw,J3]
 rfl
theorem P1 (h:MkOk lk es ck)(K:KX)(hK:∀(x:TV) (tl:bq) (seen:List Nat),tU es x tl→K .normal (aI 14 zq AI) (ye lk es ck x tl seen) []):
  VWx prog ae none 0 (aE prog gm 0) (aI 14 zq AI) (ye lk es ck (.val (.slice none 0 0)) [] []) [] K:=by
 refine dM (f:=gm) (id:=0) (by kernel_rfl) 14 zq (λs:List Nat=>es.length-s.length) (λ_=>AI) (wx lk es ck) (KyInv es) 6 1 (λs _=>⟨le_refl _,DH _⟩)
  (λe vs T=>e=.normal∧vs=AI∧∃x tl seen,tU es x tl∧T=ye lk es ck x tl seen) (λseen hs=> ?_) [] ⟨nodup_nil,λs h=>by cases h⟩ K ?_
 rotate_left
 ·rintro e vs T ⟨rfl,rfl,x,tl,seen,h1,rfl⟩
  exact hK x tl seen h1
 have hL:∀F2:gD,dy prog ae (zl 1000001 (Np 5 6 7,cj prog gm 1) 1000003 (zk prog ae bo F2 250 (cj prog gm 3),cj prog gm 3)):=
  λF2=>Fd (SD (by kernel_rfl)) (λrd ro σ T D K h=>Fc ac aa ai (F2:=F2) (n:=250) (c:=cj prog gm 3) rd ro σ T D K h)
 have hle:=hs.le
 have hf:=h.few
 let lst:=λl:List Nat=>l.getLast?.getD 0
 have hv:=UP lk es ck (xP (seen.map (dR es))) (λl=>(l.map (dR es)).map aK) (λl=>.tail 0 (l.map (dR es)).length) (λl=>tP (l.map (dR es))) (tP (seen.map (dR es))) seen (λl=>(dR es (l.getLast?.getD 0)).1) (λl=>(dR es (l.getLast?.getD 0)).2) (λl=>(ww es (l.getLast?.getD 0)).2.1) (Gs 14 0 (λs:List Nat=>es.length-s.length) (λ_=>AI) (wx lk es ck) (KyInv es) 6 1 seen (λe vs T=>e=.normal∧vs=AI∧∃x tl seen,tU es x tl∧T=ye lk es ck x tl seen))
 refine bU ac aa ai (hL _) hv ⟨rfl,⟨rfl,h.lost seen,rfl⟩,λhno=> ?_,λk v s hnx=> ?_⟩
 ·refine ⟨rfl,rfl,?_⟩
  exact ⟨rfl,rfl,_,_,seen,⟨_,hs.done h hno,rfl,rfl⟩,rfl⟩
 ·obtain ⟨hm,hns⟩:=h.nx hnx
  obtain ⟨rfl,rfl,hfind⟩:=h.at hm
  have hlast:∀l:List Nat,(l++ [s]).getLast?=some s:=λl=>by simp
  have hi2:KyInv es (seen++ [s]):=⟨List.nodup_append.2 ⟨hs.1,by simp,λa ha b hb e=>by
   rw [mem_singleton.1 hb] at e
   exact hns (e▸ha)⟩,λa ha=>by
   rcases mem_append.1 ha with ha | ha
   ·exact hs.2 a ha
   ·rw [mem_singleton.1 ha];exact mem_map_of_mem (f:=λe:Value × TV × Nat=>e.2.2) hm⟩
  simp only [hlast,getD_some]
  refine ⟨.ent _ rfl rfl ?_,trivial,?_,rfl,rfl,?_⟩
  ·show qa _ (.ptr 5 0)=_
   simp only [qa,List.getElem?_cons_succ,getElem?_cons_zero,hlast,beq_refl,cond_true,hfind]
   rfl
  ·have ha:=S1 [.map ⟨true,[.int .u32,.int .i64]⟩ lk es ck,.cells [.map 0],.cells [xP (seen.map (dR es))],.defd,.loop .busy none SV #[7] iP fX,.iter (.map 0) ck (seen++ [s]) ck,.cells (aK (dR es s)),.cells (aK (dR es s))] (seen.map (dR es)) (dR es s) (by simp only [length_map];omega)
   rw [show seen.map (dR es)++ [dR es s]=(seen++ [s]).map (dR es) by simp] at ha
   exact ha
  ·refine ⟨seen++ [s],hi2,?_,.inr ⟨?_,rfl⟩⟩
   ·have:=hi2.le
    simp only [length_append,length_cons,length_nil] at this ⊢
    omega
   ·have hk:=J5 h (seen++ [s]) [.cells (aK (dR es s)),.cells (aK (dR es s))]
    have hx:xP ((seen++ [s]).map (dR es))=.vec 2 (((seen++ [s]).map (dR es)).map aK) (.tail 0 ((seen++ [s]).map (dR es)).length):=by
     rw [map_append];exact SY _ _
    unfold wx at hk ⊢
    rw [hx] at hk ⊢
    exact hk
theorem S3 (h:MkOk lk es ck):VCx prog ae 0 gm [.yld 4,.ptr 1 0] (DF lk es ck) λx T'=>x=.tup []∧∃(y:TV) (tl:bq),tU es y tl∧T'=⟨(DF lk es ck).objs.set 2 (.cells [y]),tl⟩:=by
 refine VCx.keepQ 5 1 (le_refl _) (zero_le _) (aj ac aa ai (bO λp hp=> ?_) (UR lk es ck _) ?_)
 ·obtain rfl:=mem_singleton.1 hp
  exact cd λK hK=>P1 h K hK
 ·refine ⟨rfl,⟨rfl,rfl,rfl,trivial,rfl,rfl,rfl⟩,λx tl seen hk=>⟨rfl,x,tl,hk,?_⟩⟩
  obtain ⟨l,_,rfl,rfl⟩:=hk
  have e:=h.ren (ap 5) (ap 1)
  have e2:(tP l).take 1=tP l:=List.take_of_length_le (DH _)
  unfold kP at e
  simp only [VT.keep,DF,take_succ_cons,take_zero,map_cons,map_nil,e,e2,kP]
  simp only [VO.ren,aw,J3]
  rfl
theorem S4:∀ro ys T K,SX es ro ys T K→VCx prog ae ro gm ys T K:=by
 intro ro ys T K h
 unfold SX at h
 split at h
 ·obtain ⟨⟨rfl,lk,ck,hm,rfl⟩,hk⟩:=h
  refine (S3 hm).mono ?_
  rintro x T' ⟨rfl,y,tl,hy,rfl⟩
  exact hk y tl hy
 ·exact h.elim
theorem S5 (h:MkOk lk es ck):VCx prog ae 0 J2 [.fn (.func gm) [] [.ptr 1 0]] ⟨[.map kP lk es ck,.cells [.map 0]],[]⟩ λx T'=>∃l:List Px,l.Perm (sa es)∧TVle x (.vec 2 (l.map aK) .none)∧T'=⟨[.map kP lk es ck,.cells [.map 0]],[]⟩:=by
 refine VCx.keepQ 2 0 (le_refl _) (le_refl _) (aj ac aa (aZ λp hp=> ?_) ag (UQ lk es ck _) ?_)
 ·obtain rfl:=mem_singleton.1 hp
  exact S4
 ·refine ⟨⟨rfl,lk,ck,h,rfl⟩,λx tl hk=> ?_⟩
  obtain ⟨l,hl,rfl,rfl⟩:=hk
  refine ⟨l,hl,?_,?_⟩
  ·show TVle ((xP l).ren _ _) _
   cases l with
   |nil=>exact TVle.nil 2
   |cons p l=>
    simp only [xP,TV.ren,eS]
    exact TVle.vec 2 _ _
  ·have e:=h.ren (ap 2) (ap 0)
   unfold kP at e
   simp only [VT.keep,take_succ_cons,take_zero,map_cons,map_nil,e,kP]
   rfl
end
end
section
open Go.RowKit
abbrev bF:=Value→Option TV
abbrev bw:=List (Value × TV × Nat)
abbrev bA:=Px × AtV
def ma (a:AtV):TV:=.agg a.cells
def fY (W:List bA)(p:Px):Option AtV:=(W.find? λr=>decide (r.1=p)).map (·.2)
structure TbOk (W:List bA) (lk:bF) (es:bw) (ck:Nat):Prop where
 srt:W.Pairwise λr s=>ej r.1 s.1
 look:∀p,lk (dA p)=(fY W p).map ma
 lren:∀k x,lk k=some x→∀f g,x.ren f g=x
 ents:∀e∈es,∃r∈W,e.1=dA r.1∧e.2.1=ma r.2
 all:∀r∈W,dA r.1∈es.map (·.1)
 kn:(es.map (·.1)).Nodup
 born:∀e∈es,e.2.2<ck
 borns:(es.map (·.2.2)).Nodup
 few:W.length≤20000
 okp:∀r∈W,r.2.p.length≤64000000
def fM (W:List bA)(p:Px):List bA:=W.filter λr=> !decide (r.1=p)
def rL (x:bA):List bA→List bA
 |[]=> [x]
 |r::l=>if ej x.1 r.1 then x::r::l else r::rL x l
def jF (W:List bA)(x:bA):List bA:=rL x (fM W x.1)
theorem dP {W:List bA}{p:Px}{r:bA}:r∈fM W p ↔ r∈W∧r.1≠p:=by
 unfold fM;simp
theorem wy {x r:bA}:∀{l:List bA},r∈rL x l ↔ r=x∨r∈l
 |[]=>by simp [rL]
 |a::l=>by
  unfold rL
  split
  ·simp
  ·simp only [mem_cons,wy (l:=l)]
   constructor
   ·rintro (h | h | h)
    ·exact .inr (.inl h)
    ·exact .inl h
    ·exact .inr (.inr h)
   ·rintro (h | h | h)
    ·exact .inr (.inl h)
    ·exact .inl h
    ·exact .inr (.inr h)
theorem gN {W:List bA}{x r:bA}:r∈jF W x ↔ r=x∨(r∈W∧r.1≠x.1):=by
 unfold jF;rw [wy,dP]
def pQ (W:List bA):Prop:=W.Pairwise λr s=>ej r.1 s.1
theorem pR {W:List bA}(h:pQ W)(p:Px):pQ (fM W p):=Pairwise.filter _ h
theorem Fr {x:bA}:∀{l:List bA},pQ l→(∀r∈l,r.1≠x.1)→pQ (rL x l)
 |[],_,_=>List.pairwise_singleton _ _
 |a::l,h,hn=>by
  unfold rL
  have h1:=pairwise_cons.1 h
  split
  ·rename_i hlt
   refine pairwise_cons.2 ⟨λr hr=> ?_,h⟩
   rcases mem_cons.1 hr with rfl | hr
   ·exact hlt
   ·exact lp hlt (h1.1 r hr)
  ·rename_i hlt
   refine pairwise_cons.2 ⟨λr hr=> ?_,Fr h1.2 λr hr=>hn r (mem_cons_of_mem _ hr)⟩
   rcases wy.1 hr with rfl | hr
   ·exact byContradiction λhc=>hn a mem_cons_self (rJ hc hlt)
   ·exact h1.1 r hr
theorem DJ {W:List bA}(h:pQ W)(x:bA):pQ (jF W x):=Fr (pR h _) λr hr=>(dP.1 hr).2
theorem P2 {W:List bA}(h:pQ W){r s:bA}(hr:r∈W)(hs:s∈W)(he:r.1=s.1):r=s:=by
 induction W with
 |nil=>cases hr
 |cons a W ih=>
  have h1:=pairwise_cons.1 h
  rcases mem_cons.1 hr with e1 | hr1
  ·rcases mem_cons.1 hs with e2 | hs1
   ·rw [e1,e2]
   ·have:=h1.1 s hs1
    rw [←e1,he] at this
    exact absurd this (fv _)
  ·rcases mem_cons.1 hs with e2 | hs1
   ·have:=h1.1 r hr1
    rw [←e2,he] at this
    exact absurd this (fv _)
   ·exact ih h1.2 hr1 hs1
theorem jm {W:List bA}{p:Px}{a:AtV}(h:fY W p=some a):(p,a)∈W:=by
 unfold fY at h
 cases hf:W.find? λr=>decide (r.1=p) with
 |none=>rw [hf] at h;cases h
 |some r=>
  rw [hf] at h
  have h1:=List.find?_some hf
  have h2:=List.mem_of_find?_eq_some hf
  obtain ⟨q,b⟩:=r
  simp only [decide_eq_true_eq] at h1
  subst h1
  injection h with h
  simp only at h
  subst h
  exact h2
theorem rM {W:List bA}{p:Px}(h:fY W p=none):∀r∈W,r.1≠p:=by
 unfold fY at h
 simp only [Option.map_eq_none_iff,List.find?_eq_none,decide_eq_true_eq] at h
 exact h
theorem rN {W:List bA}(hs:pQ W){p:Px}{a:AtV}(h:(p,a)∈W):fY W p=some a:=by
 cases hf:fY W p with
 |none=>exact absurd rfl (rM hf _ h)
 |some b=>
  have:=P2 hs h (jm hf) rfl
  injection this with _ h2
  rw [h2]
theorem HG {W:List bA}(hs:pQ W)(p q:Px)(a:AtV):fY (jF W (p,a)) q=if p=q then some a else fY W q:=by
 have h2:=DJ hs (p,a)
 split
 ·rename_i h;subst h
  exact rN h2 (gN.2 (.inl rfl))
 ·rename_i hne
  cases hf:fY W q with
  |some b=>exact rN h2 (gN.2 (.inr ⟨jm hf,λh=>hne h.symm⟩))
  |none=>
   cases hg:fY (jF W (p,a)) q with
   |none=>rfl
   |some b=>
    rcases gN.1 (jm hg) with h | h
    ·injection h with h _;exact absurd h.symm hne
    ·exact absurd rfl (rM hf _ h.1)
theorem AY {W:List bA}(hs:pQ W)(p q:Px):fY (fM W p) q=if p=q then none else fY W q:=by
 split
 ·rename_i h;subst h
  cases hf:fY (fM W p) p with
  |none=>rfl
  |some b=>exact absurd rfl (dP.1 (jm hf)).2
 ·rename_i hne
  cases hf:fY W q with
  |some b=>exact rN (pR hs p) (dP.2 ⟨jm hf,λh=>hne h.symm⟩)
  |none=>
   cases hg:fY (fM W p) q with
   |none=>rfl
   |some b=>exact absurd rfl (rM hf _ (dP.1 (jm hg)).1)
theorem DK (x:bA):∀l:List bA,(rL x l).length=l.length+1
 |[]=>rfl
 |a::l=>by unfold rL;split<;>simp [DK x l]
theorem pS (W:List bA)(p:Px):(fM W p).length≤W.length:=List.length_filter_le _ _
theorem DL (W:List bA)(x:bA):(jF W x).length≤W.length+1:=by
 unfold jF;rw [DK];have:=pS W x.1;omega
theorem wA {p q:Px}(h:dA p=dA q):p=q:=by
 have:=congrArg zp h
 simpa [DG] using this
theorem mo (p:Px):kP.fits (dA p)=true:=rfl
theorem HH (p q:Px):aq (dA p) (dA q)=decide (p=q):=by
 have h:=ce (mo p) (mo q)
 cases hk:aq (dA p) (dA q) with
 |true=>exact (decide_eq_true (wA (h.1 hk))).symm
 |false=>
  refine (decide_eq_false λe=> ?_).symm
  rw [h.2 (by rw [e])] at hk;cases hk
theorem AJ {k:Value}{v:TV}{ck:Nat}:∀{es:bw},(cI k v ck es).map (·.2.2)=es.map (·.2.2)∨(cI k v ck es).map (·.2.2)=es.map (·.2.2)++ [ck]
 |[]=>.inr rfl
 |e::es=>by
  unfold cI
  cases aq k e.1
  ·rcases AJ (k:=k) (v:=v) (ck:=ck) (es:=es) with h | h
   ·exact .inl (by simp only [cond_false,map_cons,h])
   ·exact .inr (by simp only [cond_false,map_cons,h,cons_append])
  ·exact .inl rfl
theorem yf {k:Value}{v:TV}{ck:Nat}{sh:KS}(hk:sh.fits k=true):∀{es:bw},(∀e∈es,sh.fits e.1=true)→k∈es.map (·.1)→(cI k v ck es).map (·.2.2)=es.map (·.2.2)
 |[],_,h=>by cases h
 |e::es,hf,h=>by
  have hka:=ce hk (hf e mem_cons_self)
  unfold cI
  cases hb:aq k e.1
  ·rcases mem_cons.1 h with h | h
   ·rw [hka.2 h] at hb;cases hb
   ·simp only [cond_false,map_cons,yf hk (λe he=>hf e (mem_cons_of_mem _ he)) h]
  ·rfl
theorem DM {k:Value}{v:TV}{ck:Nat}{sh:KS}(hk:sh.fits k=true):∀{es:bw},(∀e∈es,sh.fits e.1=true)→(es.map (·.1)).Nodup→∀e∈cI k v ck es,(e.1=k∧e.2.1=v)∨(e∈es∧e.1≠k)
  |[],_,_,e,he=>by
    obtain rfl:=mem_singleton.1 he
    exact .inl ⟨rfl,rfl⟩
  |a::es,hf,hn,e,he=>by
    unfold cI at he
    have hka:=ce hk (hf a mem_cons_self)
    cases hb:aq k a.1
    · rw [hb,cond_false] at he
      rcases mem_cons.1 he with rfl | he
      · refine .inr ⟨mem_cons_self,λh=> ?_⟩
        rw [hka.2 h.symm] at hb;cases hb
      · rcases DM hk (λe he=>hf e (mem_cons_of_mem _ he)) (nodup_cons.1 hn).2 e he with h | h
        · exact .inl h
        · exact .inr ⟨mem_cons_of_mem _ h.1,h.2⟩
    · rw [hb,cond_true] at he
      have e1:=hka.1 hb
      rcases mem_cons.1 he with rfl | he
      · exact .inl ⟨rfl,rfl⟩
      · refine .inr ⟨mem_cons_of_mem _ he,λh=>(nodup_cons.1 hn).1 ?_⟩
        show a.1∈_
        rw [←e1,←h]
        exact mem_map_of_mem (f:=λe:Value × TV × Nat=>e.1) he
theorem wB {k:Value}{sh:KS}(hk:sh.fits k=true):∀{es:bw},(∀e∈es,sh.fits e.1=true)→(es.map (·.1)).Nodup→∀e,e∈fB k es ↔ e∈es∧e.1≠k
 |[],_,_,e=>by simp [fB]
 |a::es,hf,hn,e=>by
  unfold fB
  have hka:=ce hk (hf a mem_cons_self)
  have hn2:=nodup_cons.1 hn
  cases hb:aq k a.1
  ·have hne:a.1≠k:=λh=>by rw [hka.2 h.symm] at hb;cases hb
   simp only [cond_false,mem_cons,wB hk (λe he=>hf e (mem_cons_of_mem _ he)) hn2.2]
   constructor
   ·rintro (rfl | h)
    ·exact ⟨.inl rfl,hne⟩
    ·exact ⟨.inr h.1,h.2⟩
   ·rintro ⟨rfl | h,h2⟩
    ·exact .inl rfl
    ·exact .inr ⟨h,h2⟩
  ·have e1:=hka.1 hb
   simp only [cond_true,mem_cons]
   constructor
   ·intro h
    refine ⟨.inr h,λh2=>hn2.1 ?_⟩
    show a.1∈_
    rw [←e1,←h2]
    exact mem_map_of_mem (f:=λe:Value × TV × Nat=>e.1) h
   ·rintro ⟨rfl | h,h2⟩
    ·exact absurd e1.symm h2
    ·exact h
section
variable {W:List bA}{lk:bF}{es:bw}{ck:Nat}
theorem DN (a:AtV)(f g:Nat→Option Nat):(ma a).ren f g=ma a:=by
 simp only [ma,AtV.cells,TV.ren,aw,dW,Tok.ren]
theorem TbOk.fits (h:TbOk W lk es ck):∀e∈es,kP.fits e.1=true:=λe he=>by
 obtain ⟨r,_,h1,_⟩:=h.ents e he
 rw [h1];exact mo _
theorem TbOk.keysP (h:TbOk W lk es ck):(es.map (·.1)).Perm (W.map λr=>dA r.1):=by
 refine (List.perm_ext_iff_of_nodup h.kn ?_).2 λk=>⟨λhk=> ?_,λhk=> ?_⟩
 ·refine Pairwise.map _ (λa b hab he=> ?_) h.srt
  rw [wA he] at hab
  exact fv _ hab
 ·obtain ⟨e,he,rfl⟩:=mem_map.1 hk
  obtain ⟨r,hr,h1,_⟩:=h.ents e he
  rw [h1]
  exact mem_map_of_mem (f:=λr:bA=>dA r.1) hr
 ·obtain ⟨r,hr,rfl⟩:=mem_map.1 hk
  exact h.all r hr
theorem TbOk.len (h:TbOk W lk es ck):es.length=W.length:=by
 have:=h.keysP.length_eq
 simpa using this
theorem TbOk.esP (h:TbOk W lk es ck):(sa es).Perm (W.map (·.1)):=by
 have:=h.keysP.map zp
 rw [map_map,map_map] at this
 exact this
theorem TbOk.ren (h:TbOk W lk es ck)(f g:Nat→Option Nat):VO.ren f g (.map kP lk es ck)=.map kP lk es ck:=by
 have h1:(λk=>(lk k).map (TV.ren f g))=lk:=by
  funext k
  cases hk:lk k with
  |none=>rfl
  |some x=>simp only [map_some,h.lren k x hk f g]
 have h2:es.map (λe=>(e.1,e.2.1.ren f g,e.2.2))=es:=by
  conv=>rhs;rw [←map_id es]
  refine map_congr_left λe he=> ?_
  obtain ⟨r,_,_,h2⟩:=h.ents e he
  rw [h2,DN,←h2];rfl
 simp only [VO.ren,h1,h2]
theorem TbOk.mk_ok (h:TbOk W lk es ck):MkOk lk es ck where
 keys:=λe he=>by
  obtain ⟨r,_,h1,_⟩:=h.ents e he
  exact ⟨r.1,h1⟩
 born:=h.born
 borns:=h.borns
 ren:=h.ren
 few:=by have:=h.len;have:=h.few;omega
theorem TbOk.empty (ck:Nat):TbOk [] (λ_=>none) [] ck where
 srt:=Pairwise.nil
 look:=λp=>rfl
 lren:=λk x h=>by cases h
 ents:=λe h=>by cases h
 all:=λr h=>by cases h
 kn:=nodup_nil
 born:=λe h=>by cases h
 borns:=nodup_nil
 few:=zero_le _
 okp:=λr h=>by cases h
theorem TbOk.born' (h:TbOk W lk es ck)(p:Px)(v:TV){ck':Nat}(hc:ck'=match lk (dA p) with
  |some _=>ck
  |none=>ck+1):((cI (dA p) v ck es).map (·.2.2)=es.map (·.2.2)∧ck≤ck')∨((cI (dA p) v ck es).map (·.2.2)=es.map (·.2.2)++ [ck]∧ck'=ck+1):=by
 cases hl:lk (dA p) with
 |none=>
  rw [hl] at hc
  subst hc
  rcases AJ (k:=dA p) (v:=v) (ck:=ck) (es:=es) with h1 | h1
  ·exact .inl ⟨h1,Nat.le_succ _⟩
  ·exact .inr ⟨h1,rfl⟩
 |some x=>
  rw [hl] at hc
  subst hc
  refine .inl ⟨yf (mo p) h.fits ?_,le_refl _⟩
  rw [h.look] at hl
  cases hf:fY W p with
  |none=>rw [hf] at hl;cases hl
  |some a=>exact h.all _ (jm hf)
theorem TbOk.put (h:TbOk W lk es ck)(p:Px)(a:AtV)(hl:W.length<20000)(ha:a.p.length≤64000000){ck':Nat}(hc:ck'=match lk (dA p) with
  |some _=>ck
  |none=>ck+1):TbOk (jF W (p,a)) (λk=>bif aq (dA p) k then some (ma a) else lk k) (cI (dA p) (ma a) ck es) ck' where
 srt:=DJ h.srt _
 look:=λq=>by
  rw [HH,HG h.srt,h.look]
  by_cases e:p=q
  ·simp [e]
  ·simp [e]
 lren:=λk x hx f g=>by
  cases hk:aq (dA p) k
  ·rw [hk] at hx;exact h.lren k x hx f g
  ·rw [hk] at hx;injection hx with hx;rw [←hx];exact DN _ _ _
 ents:=λe he=>by
  rcases DM (mo p) h.fits h.kn e he with ⟨h1,h2⟩ | ⟨h1,h2⟩
  ·exact ⟨(p,a),gN.2 (.inl rfl),h1,h2⟩
  ·obtain ⟨r,hr,k1,k2⟩:=h.ents e h1
   refine ⟨r,gN.2 (.inr ⟨hr,λe1=>h2 ?_⟩),k1,k2⟩
   rw [k1,e1]
 all:=λr hr=>by
  rw [oV (mo p) _ _ h.fits]
  rcases gN.1 hr with rfl | ⟨hr,_⟩
  ·split
   ·rename_i hm
    refine byContradiction λhn=> ?_
    rw [(sv (mo p) h.fits).2 hn] at hm;cases hm
   ·exact List.mem_append_right _ mem_cons_self
  ·have:=h.all r hr
   split
   ·exact this
   ·exact List.mem_append_left _ this
 kn:=ni (mo p) _ _ h.fits h.kn
 born:=λe he=>by
  have h1:e.2.2∈(cI (dA p) (ma a) ck es).map (·.2.2):=mem_map_of_mem (f:=λe:Value × TV × Nat=>e.2.2) he
  have h2:∀b∈es.map (·.2.2),b<ck:=λb hb=>by
   obtain ⟨e,he,rfl⟩:=mem_map.1 hb
   exact h.born e he
  rcases h.born' p (ma a) hc with ⟨hm,hle⟩ | ⟨hm,rfl⟩
  ·rw [hm] at h1;exact Nat.lt_of_lt_of_le (h2 _ h1) hle
  ·rw [hm] at h1
   rcases mem_append.1 h1 with h1 | h1
   ·exact Nat.lt_succ_of_lt (h2 _ h1)
   ·rw [mem_singleton.1 h1];exact Nat.lt_succ_self _
 borns:=by
  rcases h.born' p (ma a) hc with ⟨hm,_⟩ | ⟨hm,_⟩
  ·rw [hm];exact h.borns
  ·rw [hm]
   refine List.nodup_append.2 ⟨h.borns,by simp,λb hb c hc e=> ?_⟩
   rw [mem_singleton.1 hc] at e
   obtain ⟨x,hx,rfl⟩:=mem_map.1 hb
   have:=h.born x hx
   omega
 few:=by have:=DL W (p,a);omega
 okp:=λr hr=>by
  rcases gN.1 hr with rfl | ⟨hr,_⟩
  ·exact ha
  ·exact h.okp r hr
theorem TbOk.del (h:TbOk W lk es ck)(p:Px):TbOk (fM W p) (λk=>bif aq (dA p) k then none else lk k) (fB (dA p) es) ck where
 srt:=pR h.srt _
 look:=λq=>by
  rw [HH,AY h.srt,h.look]
  by_cases e:p=q
  ·simp [e]
  ·simp [e]
 lren:=λk x hx f g=>by
  cases hk:aq (dA p) k
  ·rw [hk] at hx;exact h.lren k x hx f g
  ·rw [hk] at hx;cases hx
 ents:=λe he=>by
  obtain ⟨h1,h2⟩:=(wB (mo p) h.fits h.kn e).1 he
  obtain ⟨r,hr,k1,k2⟩:=h.ents e h1
  refine ⟨r,dP.2 ⟨hr,λe1=>h2 ?_⟩,k1,k2⟩
  rw [k1,e1]
 all:=λr hr=>by
  obtain ⟨h1,h2⟩:=dP.1 hr
  obtain ⟨e,he,k1⟩:=mem_map.1 (h.all r h1)
  rw [←k1]
  refine mem_map_of_mem (f:=λe:Value × TV × Nat=>e.1) ((wB (mo p) h.fits h.kn e).2 ⟨he,λh3=>h2 ?_⟩)
  rw [k1] at h3
  exact wA h3
 kn:=h.kn.sublist ((lF es).map _)
 born:=λe he=>h.born e ((lF es).subset he)
 borns:=h.borns.sublist ((lF es).map _)
 few:=le_trans (pS _ _) h.few
 okp:=λr hr=>h.okp r (dP.1 hr).1
end
end
section
open Go.RowKit
abbrev Fs:=34
abbrev mH:=52
abbrev sc:=53
abbrev sd:=54
abbrev mI:=18
abbrev qJ:=20
abbrev DO:=17
abbrev J6:=16
abbrev J7:=19
abbrev yg:=36
abbrev vE:=35
abbrev tV:=21
abbrev VC:=40
abbrev tW:=22
abbrev vF:=4
abbrev Nt:=15
abbrev S6:=37
abbrev S7:=11
def lq (s m:Nat)(x:TV)(d u:Int):VO:=.cells [.ptr s 0,.map m,x,.val (.int .i64 d),.val (.int .i64 u)]
def yh (o:VO)(lk:bF)(es:bw)(ck:Nat)(x:TV)(d u:Int)(l:List VO):List VO:=o:: .map kP lk es ck::lq 0 1 x d u::l
def cZ (o:VO)(lk:bF)(es:bw)(ck:Nat)(x:TV)(d u:Int)(l:List VO)(tl:bq):VT:=⟨yh o lk es ck x d u l,tl⟩
def yi (T:VT)(d u:Int)(lk:bF)(es:bw)(ck:Nat):VT:=match T.objs with
 |o::_:: .cells (s::m::x::_)::r=>⟨o:: .map kP lk es ck:: .cells [s,m,x,.val (.int .i64 d),.val (.int .i64 u)]::r,T.tails⟩
 |_=>T
def pT:List Nat:= [1,2,8,9,10]
def na (f:FuncId)(caps:List TV)(k:Nat)(l:Bs)(j:Int):List TV:= [.fn (.func f) [] caps,.ptr 2 k,.vec 2 l .none,.val (.int .i64 l.length),.val (.int .i64 j)]
def S8 (f:FuncId)(caps:List TV)(k:Nat)(l:Bs)(Pre:VT→Prop)(W:Int→Int→bF→bw→Nat→Prop):bW:=λrd ro σ T D K=>(rd=none∧ro=0∧D= []∧beq σ.length 23=true∧pick pT σ=na f caps k l 0∧Pre T)∧∀(d u:Int) (lk:bF) (es:bw) (ck:Nat),W d u lk es ck→K .normal (aI 23 pT (na f caps k l l.length)) (yi T d u lk es ck) []
def Nu (Pre:Nat→Bs→VT→Prop)(W:Nat→Bs→Int→Int→bF→bw→Nat→VT→Prop):be:=λro ys T K=>match ys with
 | .vec 2 l _:: .fn (.func f) [] caps:: .ptr 2 k:: []=>(ro=0∧beq f (bif beq k 3 then sc else sd)=true∧caps=(bif beq k 3 then [.ptr 6 0] else [.ptr 7 0,.ptr 6 0])∧Pre k l T)∧∀(d u:Int) (lk:bF) (es:bw) (ck:Nat),W k l d u lk es ck T→K (.tup []) (yi T d u lk es ck)
 |_=>aQ 84 default ys
def DP (Pre:List TV→VT→Prop)(W:List TV→Int→Int→bF→bw→Nat→VT→Prop):be:=λro ys T K=>match ys with
 | .ptr 2 0:: .agg ul:: []=>(ro=0∧Pre ul T)∧∀(d u:Int) (lk:bF) (es:bw) (ck:Nat),W ul d u lk es ck T→K (.tup []) (yi T d u lk es ck)
 |_=>aQ 84 default ys
def rO:List Nat:= [0,4,6,22,23,24]
def sf (L:Bs)(j:Int):List TV:= [.ptr 2 0,.ptr 3 0,.ptr 4 0,.vec 15 L .none,.val (.int .i64 L.length),.val (.int .i64 j)]
def MB (T:VT)(x:TV)(d u:Int)(lk:bF)(es:bw)(ck:Nat)(tl:bq):VT:=match T.objs with
 |o::_:: .cells (s::m::_)::r=>⟨o:: .map kP lk es ck:: .cells [s,m,x,.val (.int .i64 d),.val (.int .i64 u)]::r,tl⟩
 |_=>T
def VD (L:Bs)(Pre:VT→Prop)(W:TV→Int→Int→bF→bw→Nat→bq→Prop):bW:=λrd ro σ T D K=>(rd=none∧ro=0∧D= []∧beq σ.length 44=true∧pick rO σ=sf L 0∧Pre T)∧∀(x:TV) (d u:Int) (lk:bF) (es:bw) (ck:Nat) (tl:bq),W x d u lk es ck tl→K .normal (aI 44 rO (sf L L.length)) (MB T x d u lk es ck tl) []
def zr:List Nat:= [0,3,15,16,17]
def vG (t3:TV)(P:Bs)(j:Int):List TV:= [.ptr 2 0,t3,.vec 2 P .none,.val (.int .i64 P.length),.val (.int .i64 j)]
def S9 (es:bw)(P:Bs):Prop:=∃l:List Px,P=l.map aK∧l.Perm (sa es)
def Ta (lk:bF)(es:bw)(ck:Nat):Prop:=MkOk lk es ck
def Nv:be:=λro ys T K=>match ys with
 |[.fn (.func f) [] [.ptr b 0]]=>match T.objs[b]? with
  |some (.cells [.map m])=>match T.objs[m]? with
   |some (.map sh lk es ck)=>((ble ro b=true∧ble ro m=true)∧(beq f gm=true∧sh=kP)∧Ta lk es ck)∧∀P:Bs,S9 es P→K (.vec 2 P .none) T
   |_=>aQ 86 default ys
  |_=>aQ 85 default ys
 |_=>aQ 84 default ys
def Tb (l:Bs):Prop:=∃p:List Px,l=p.map aK∧p.length≤20000
def nb (l:Bs):List Px:=l.map λe=>match e with
 |[.val (.int _ a),.val (.int _ n)]=>(a,n)
 |_=>(0,0)
def AK (l:Bs):Bs:=(cO (gt (nb l))).map aK
def Nw:be:=λ_ ys T K=>match ys with
 |[.vec 2 l _]=>Tb l∧K (.vec 2 (AK l) .none) T
 |_=>aQ 84 default ys
def Nx (P0:Bs)(Pre:Bs→VT→Prop)(W:Bs→TV→VT→VT→Prop):bW:=λrd ro σ T D K=>match pick zr σ with
 | .ptr 2 0::t3:: .vec 2 P .none:: .val (.int .i64 n):: .val (.int .i64 j):: []=>(rd=none∧ro=0∧D= []∧beq σ.length 34=true∧t3=.val (.slice none 0 0)∧n=(P.length:Int)∧j=0∧Pre P T)∧∀(x:TV) (tl:bq),W P x T {T with tails:=tl}→K .normal (aI 34 zr (vG x P P.length)) {T with tails:=tl} []
 |_=>aQ 84 default σ
def bf (r:bA):List TV:=aK r.1++r.2.cells
def tX (r:bA):Prop:=r.2.p.length≤64000000
def Tc (l m:List TV)(ok:Bool):Prop:=∃r s:bA,(l=bf r∧m=bf s)∧(tX r∧tX s)∧ok=decide (r=s)
def Td (ok:Bool):be:=λ_ ys T K=>match ys with
 |[.agg l,.agg m]=>Tc l m ok∧K (.val (.bool ok)) T
 |_=>aQ 84 default ys
def MC (l m:List TV)(ok:Bool):Prop:=∃a b:AtV,(l=a.cells∧m=b.cells)∧(a.p.length≤64000000∧b.p.length≤64000000)∧ok=decide (a=b)
def Ft (ok:Bool):be:=λ_ ys T K=>match ys with
 |[.agg l,.agg m]=>MC l m ok∧K (.val (.bool ok)) T
 |_=>aQ 84 default ys
def tY:List Nat:= [1,2,6,15,16,17]
def qK (l m:Bs)(j:Int):List TV:= [.vec 7 m .none,.fn (.func yg) [] [],.val (.bool false),.vec 7 l .none,.val (.int .i64 l.length),.val (.int .i64 j)]
def VE (l m:Bs)(ok:Bool)(Pre:VT→Prop):bW:=λrd ro σ T D K=>(rd=none∧ro=0∧D= []∧beq σ.length 32=true∧pick tY σ=qK l m 0∧Pre T)∧(@Eq Nat l.length m.length)∧∀(z:Int) (bx:List VO),bif ok then K .normal (aI 32 tY (qK l m l.length)) T [] else K .ret (aI 32 tY (qK l m z)) {T with objs:=T.objs++bx} []
def tZ:List Nat:= [0,1,4,12,13]
def qL (l m:Bs)(j:Int):List TV:= [.vec 7 l .none,.vec 7 m .none,.val (.bool false),.val (.int .i64 l.length),.val (.int .i64 j)]
def VF (l m:Bs)(ok:Bool)(Pre:VT→Prop):bW:=λrd ro σ T D K=>(rd=none∧ro=0∧D= []∧beq σ.length 42=true∧pick tZ σ=qL l m 0∧Pre T)∧(@Eq Nat l.length m.length)∧∀z:Int,bif ok then K .normal (aI 42 tZ (qL l m l.length)) T [] else K .ret (aI 42 tZ (qL l m z)) T []
def ia (W:List bA):Prop:=W.length≤20000∧∀r∈W,tX r
def Te (l m:Bs)(ok:Bool):Prop:=∃W W2:List bA,(l=W.map bf∧m=W2.map bf)∧(ia W∧ia W2)∧ok=decide (W=W2)
def Tf (ok:Bool):be:=λ_ ys T K=>match ys with
 |[.vec 7 l _,.vec 7 m _,.fn (.func f) [] []]=>(beq f yg=true∧Te l m ok)∧K (.val (.bool ok)) T
 |_=>aQ 84 default ys
def zt:List Nat:= [3,6,7,8]
def t6 (t3:TV)(l:Bs)(j:Int):List TV:= [t3,.vec 7 l .none,.val (.int .i64 l.length),.val (.int .i64 j)]
def VG (l:Bs)(W:TV→bq→Prop):bW:=λrd ro σ T D K=>(rd=none∧ro=0∧D= []∧beq σ.length 22=true∧pick zt σ=t6 (.val (.slice none 0 0)) l 0∧T=⟨[],[]⟩)∧∀(x:TV) (tl:bq),W x tl→K .normal (aI 22 zt (t6 x l l.length)) ⟨[],tl⟩ []
def Fu (o:VO):be:=λ_ ys T K=>match ys with
 |[]=>K (.ptr (T.objs.length+2) 0) {T with objs:=T.objs++ [o,.map kP (λ_=>none) [] 0,lq T.objs.length (T.objs.length+1) (.val (.slice none 0 0)) 0 0]}
 |_=>aQ 84 default ys
structure VwF where
 so:Bs→VO
 fc:Bs→Int
 fs:Bs→Int
 fd:Bs→Bs
 rx:Bs→Bs
def VwF.ft (F:VwF)(w:Bs):TV:=cH (F.fc w) (F.fs w) (F.fd w)
def AL (F:VwF)(Pre:Bs→VO→bF→bw→Nat→TV→bq→Bs→Prop)(W:Bs→bF→bw→Nat→TV→bq→Prop):be:=λro ys T K=>match ys with
 | .ptr p 0:: .vec 1 b _:: []=>match T.objs[p]? with
  |some (.cells (.ptr s 0:: .map m::x:: .val (.int .i64 d0):: .val (.int .i64 u0):: []))=>match T.objs[s]?,T.objs[m]? with
   |some o,some (.map sh lk es ck)=>∃w:Bs,((ro=0∧beq s m=false∧beq s p=false∧beq m p=false)∧sh=kP∧Pre w o lk es ck x T.tails b)∧∀(lk':bF) (es':bw) (ck':Nat) (x':TV) (d u:Int) (tl:bq),W (w++b) lk' es' ck' x' tl→K (F.ft (w++b)) ⟨((T.objs.set s (F.so (w++b))).set m (.map kP lk' es' ck')).set p (lq s m x' d u),tl⟩
   |_,_=>aQ 86 default ys
  |_=>aQ 85 default ys
 |_=>aQ 84 default ys
def Fv (F:VwF)(Pre:Bs→VO→bF→bw→Nat→TV→bq→Prop):be:=λro ys T K=>match ys with
 | .ptr p 0:: []=>match T.objs[p]? with
  |some (.cells (.ptr s 0:: .map m::x:: .val (.int .i64 d0):: .val (.int .i64 u0):: []))=>match T.objs[s]?,T.objs[m]? with
   |some o,some (.map sh lk es ck)=>∃w:Bs,((ro=0∧beq s m=false∧beq s p=false∧beq m p=false)∧sh=kP∧Pre w o lk es ck x T.tails)∧K (.vec 7 (F.rx w) .none) T
   |_,_=>aQ 86 default ys
  |_=>aQ 85 default ys
 |_=>aQ 84 default ys
def Ny (F:VwF)(Pre:Bs→Prop):be:=λ_ ys T K=>match ys with
 | .vec 1 b _:: []=>Pre b∧K (.tup [.vec 7 (F.rx b) .none,F.ft b]) T
 |_=>aQ 84 default ys
def iZ (e:List TV):Int:=match e with
 |[.val (.int _ z)]=>z
 |_=>0
def Nz (e:List TV):bA:=match e with
 |[.val (.int _ a),.val (.int _ n),.val (.int _ o),.vec _ p _,.val (.int _ h),.val (.int _ m),.val (.bool hm)]=>((a,n),⟨o,p.map iZ,h,m,hm⟩)
 |_=>((0,0),⟨0,[],0,0,false⟩)
def Fw (l m:Bs):Bool:=decide (l.map Nz=m.map Nz)
def mY (l:Bs):Prop:=∃W:List bA,l=W.map bf∧ia W
def AM:be:=λ_ ys T K=>match ys with
 | .vec 7 l _:: .vec 7 m _:: []=>(mY l∧mY m)∧K (.val (.bool (Fw l m))) T
 |_=>aQ 84 default ys
def NA:be:=λ_ ys T K=>match ys with
 | .vec 7 l _:: []=>mY l∧K (.vec 7 l .none) T
 |_=>aQ 84 default ys
def t7:List Nat:= [7,8,9,11,12,43,44,45]
def t8 (R R2 rb cuts:Bs)(j:Int):List TV:= [.vec 7 R .none,.ptr 0 0,.vec 7 R2 .none,.ptr 4 0,.vec 1 rb .none,.vec 1 cuts .none,.val (.int .i64 cuts.length),.val (.int .i64 j)]
def uc (f1 f2 o:VO)(lk:bF)(es:bw)(ck:Nat)(x:TV)(d u:Int)(tl:bq):VT:=⟨[f1,f2,o,.map kP lk es ck,lq 2 3 x d u],tl⟩
def NB (F:VwF)(cuts:Bs)(Pre:Bs→VO→bF→bw→Nat→TV→bq→Prop)(W:Bs→Bs→Bs→bF→bw→Nat→TV→bq→Prop):bW:=λrd ro σ T D K=>match pick t7 σ,T.objs with
 | .vec 7 R .none:: .ptr p8 0:: .vec 7 R2 .none:: .ptr p11 0:: .vec 1 b .none:: .vec 1 cs .none:: .val (.int .i64 n):: .val (.int .i64 j):: [],f1::f2::o:: .map sh lk es ck:: .cells (s::m::x:: .val (.int .i64 d0):: .val (.int .i64 u0):: []):: []=>(rd=none∧ro=0∧D= []∧beq σ.length 92=true∧p8=0∧p11=4∧s=.ptr 2 0∧m=.map 3∧sh=kP∧cs=cuts∧n=(cuts.length:Int)∧j=0∧Pre b o lk es ck x T.tails)∧∀(w rb:Bs) (lk':bF) (es':bw) (ck':Nat) (x':TV) (d u:Int) (tl:bq),W b w rb lk' es' ck' x' tl→K .normal (aI 92 t7 (t8 R R2 rb cuts cuts.length)) (uc f1 f2 (F.so w) lk' es' ck' x' d u tl) []
 |_,_=>aQ 97 default σ
theorem NC (o:VO)(lk:bF)(es:bw)(ck:Nat)(x:TV)(d u:Int)(r1 r2 r3:VO)(ub:UpS)(tl:bq)(f:FuncId)(caps:List TV)(k:Nat)(l:Bs)(Pre:VT→Prop)(W:Int→Int→bF→bw→Nat→Prop)(Q:TV→VT→Prop):ax prog ae bo aR 300 (bX [(0,S8 f caps k l Pre W,aE prog mH 0)]) 0 mH [.vec 2 l .none,.fn (.func f) [] caps,.ptr 2 k] (cZ o lk es ck x d u [r1,r2,r3,.cells [.ptr 2 0],.cells ub.cells] tl) Q=
 ((aE prog mH (0:Nat)=aE prog mH (0:Nat))∧
 (((@Eq (Option Nat) .none .none)∧
 ((@Eq (Nat) 0 0)∧
 ((@Eq (List Nat) [] [])∧
 ((@Eq (Bool) true true)∧
 ((@Eq (List TV) [(.fn (.func (f)) [] (caps)),(.ptr 2 (k)),(.vec 2 (l) .none),(.val (.int .i64 ((↑(length l):Int)))),(.val (.int .i64 0))] [(.fn (.func (f)) [] (caps)),(.ptr 2 (k)),(.vec 2 (l) .none),(.val (.int .i64 ((↑(length l):Int)))),(.val (.int .i64 0))])∧
 Pre ⟨[(o),(.map ⟨true,[(.int .u32),(.int .i64)]⟩ (lk) (es) (ck)),(.cells [(.ptr 0 0),(.map 1),(x),(.val (.int .i64 (d))),(.val (.int .i64 (u)))]),(r1),(r2),(r3),(.cells [(.ptr 2 0)]),(.cells [(.vec 2 (UpS.w ub) .none),(.val (.int .i64 (UpS.o ub))),(.vec 1 (UpS.x ub) .none),(.val (.int .u32 (UpS.h ub))),(.val (.int .i64 (UpS.m ub))),(.val (.bool (UpS.hm ub))),(.vec 2 (UpS.n ub) .none)])],(tl)⟩)))))∧
 (∀d_19:Int,(∀u_20:Int,(∀lk_21:bF,(∀es_22:bw,(∀ck_23:Nat,(W (d_19) (u_20) (lk_21) (es_22) (ck_23)→Q (.tup []) ⟨[(o),(.map ⟨true,[(.int .u32),(.int .i64)]⟩ (lk_21) (es_22) (ck_23)),(.cells [(.ptr 0 0),(.map 1),(x),(.val (.int .i64 (d_19))),(.val (.int .i64 (u_20)))]),(r1),(r2),(r3),(.cells [(.ptr 2 0)]),(.cells [(.vec 2 (UpS.w ub) .none),(.val (.int .i64 (UpS.o ub))),(.vec 1 (UpS.x ub) .none),(.val (.int .u32 (UpS.h ub))),(.val (.int .i64 (UpS.m ub))),(.val (.bool (UpS.hm ub))),(.vec 2 (UpS.n ub) .none)])],(tl)⟩)))))))):=by kernel_rfl
theorem J8 (o:VO)(lk:bF)(es:bw)(ck:Nat)(x:TV)(d u:Int)(r1 r2 r3:VO)(ub:UpS)(tl:bq)(l:Bs)(j:Nat)(p:Px)(Q:Exit→List TV→VT→List Nat→Nat→Prop):vx prog ae bo (bB [(999998,.dead,none),(12,.elt (aK p),none)]) 300 aU none 0 (cC prog mH 0) (aI 23 pT (na sc [.ptr 6 0] 3 l j)) (cZ o lk es ck x d u [r1,r2,r3,.cells [.ptr 2 0],.cells ub.cells] tl) [] (dw pT Q)=
 (bif decide ((↑j:Int)<(↑(length l):Int))
 then (aS prog (λ_=>.none) (.indexAddr 70 (.tmp 8) (.tmp 10)) [(8,(.vec 2 (l) .none)),(10,(.val (.int .i64 ((↑j:Int)))))] (.elt [(.val (.int .u32 (fst p))),(.val (.int .i64 (snd p)))])∧
 Q .normal [(.fn (.func 53) [] [(.ptr 6 0)]),(.ptr 2 3),(.vec 2 (l) .none),(.val (.int .i64 ((↑(length l):Int)))),(.val (.int .i64 (wrap i64 ((↑j:Int)+(1:Int)))))] ⟨[(o),(.map ⟨true,[(.int .u32),(.int .i64)]⟩ (λkk=>(bif aq ((λvs=>Value.agg (toArray vs)) ((λx=>Value.int u32 (fst p)::x) ((λx=>Value.int i64 (snd p)::x) []))) kk then .none else (lk kk))) (fB ((λvs=>Value.agg (toArray vs)) ((λx=>Value.int u32 (fst p)::x) ((λx=>Value.int i64 (snd p)::x) []))) es) (ck)),(.cells [(.ptr 0 0),(.map 1),(x),(.val (.int .i64 (wrap i64 (d+(1:Int))))),(.val (.int .i64 (u)))]),(r1),(r2),(r3),(.cells [(.ptr 2 0)]),(.cells [(.vec 2 (UpS.w ub) .none),(.val (.int .i64 (UpS.o ub))),(.vec 1 (UpS.x ub) .none),(.val (.int .u32 (UpS.h ub))),(.val (.int .i64 (UpS.m ub))),(.val (.bool (UpS.hm ub))),(.vec 2 (UpS.n ub) .none)]),(.cells [(.val (.int .u32 (fst p))),(.val (.int .i64 (snd p)))]),(.cells [(.val (.int .u32 (fst p))),(.val (.int .i64 (snd p)))])],(tl)⟩ [] 23)
 else Q (.exit 0) [(.fn (.func 53) [] [(.ptr 6 0)]),(.ptr 2 3),(.vec 2 (l) .none),(.val (.int .i64 ((↑(length l):Int)))),(.val (.int .i64 ((↑j:Int))))] ⟨[(o),(.map ⟨true,[(.int .u32),(.int .i64)]⟩ (lk) (es) (ck)),(.cells [(.ptr 0 0),(.map 1),(x),(.val (.int .i64 (d))),(.val (.int .i64 (u)))]),(r1),(r2),(r3),(.cells [(.ptr 2 0)]),(.cells [(.vec 2 (UpS.w ub) .none),(.val (.int .i64 (UpS.o ub))),(.vec 1 (UpS.x ub) .none),(.val (.int .u32 (UpS.h ub))),(.val (.int .i64 (UpS.m ub))),(.val (.bool (UpS.hm ub))),(.vec 2 (UpS.n ub) .none)])],(tl)⟩ [] 23):=by kernel_rfl
theorem J9 (o:VO)(lk:bF)(es:bw)(ck:Nat)(x:TV)(d u:Int)(r1 r2 r3:VO)(ub:UpS)(tl:bq)(l:Bs)(j:Nat)(p:Px)(Q:Exit→List TV→VT→List Nat→Nat→Prop):vx prog ae bo (bB [(999998,.dead,none),(12,.elt (aK p),none)]) 300 aU none 0 (cC prog mH 0) (aI 23 pT (na sd [.ptr 7 0,.ptr 6 0] 4 l j)) (cZ o lk es ck x d u [r1,r2,r3,.cells [.ptr 2 0],.cells ub.cells] tl) [] (dw pT Q)=
 (bif decide ((↑j:Int)<(↑(length l):Int))
 then (aS prog (λ_=>.none) (.indexAddr 70 (.tmp 8) (.tmp 10)) [(8,(.vec 2 (l) .none)),(10,(.val (.int .i64 ((↑j:Int)))))] (.elt [(.val (.int .u32 (fst p))),(.val (.int .i64 (snd p)))])∧
 Q .normal [(.fn (.func 54) [] [(.ptr 7 0),(.ptr 6 0)]),(.ptr 2 4),(.vec 2 (l) .none),(.val (.int .i64 ((↑(length l):Int)))),(.val (.int .i64 (wrap i64 ((↑j:Int)+(1:Int)))))] ⟨[(o),(.map ⟨true,[(.int .u32),(.int .i64)]⟩ (λkk=>(bif aq ((λvs=>Value.agg (toArray vs)) ((λx=>Value.int u32 (fst p)::x) ((λx=>Value.int i64 (snd p)::x) []))) kk then (.some (.agg [(.val (.int .i64 (UpS.o ub))),(.vec 1 (UpS.x ub) .none),(.val (.int .u32 (UpS.h ub))),(.val (.int .i64 (UpS.m ub))),(.val (.bool (UpS.hm ub)))])) else (lk kk))) (cI (.agg #[(.int .u32 (fst p)),(.int .i64 (snd p))]) (.agg [(.val (.int .i64 (UpS.o ub))),(.vec 1 (UpS.x ub) .none),(.val (.int .u32 (UpS.h ub))),(.val (.int .i64 (UpS.m ub))),(.val (.bool (UpS.hm ub)))]) (ck) (es)) (match lk ((λvs=>Value.agg (toArray vs)) ((λx=>Value.int u32 (fst p)::x) ((λx=>Value.int i64 (snd p)::x) []))) with
|some val=>ck
|none=>ck+(1:Nat))),(.cells [(.ptr 0 0),(.map 1),(x),(.val (.int .i64 (d))),(.val (.int .i64 (wrap i64 (u+(1:Int)))))]),(r1),(r2),(r3),(.cells [(.ptr 2 0)]),(.cells [(.vec 2 (UpS.w ub) .none),(.val (.int .i64 (UpS.o ub))),(.vec 1 (UpS.x ub) .none),(.val (.int .u32 (UpS.h ub))),(.val (.int .i64 (UpS.m ub))),(.val (.bool (UpS.hm ub))),(.vec 2 (UpS.n ub) .none)]),(.cells [(.val (.int .u32 (fst p))),(.val (.int .i64 (snd p)))]),(.cells [(.val (.int .u32 (fst p))),(.val (.int .i64 (snd p)))])],(tl)⟩ [] 23)
 else Q (.exit 0) [(.fn (.func 54) [] [(.ptr 7 0),(.ptr 6 0)]),(.ptr 2 4),(.vec 2 (l) .none),(.val (.int .i64 ((↑(length l):Int)))),(.val (.int .i64 ((↑j:Int))))] ⟨[(o),(.map ⟨true,[(.int .u32),(.int .i64)]⟩ (lk) (es) (ck)),(.cells [(.ptr 0 0),(.map 1),(x),(.val (.int .i64 (d))),(.val (.int .i64 (u)))]),(r1),(r2),(r3),(.cells [(.ptr 2 0)]),(.cells [(.vec 2 (UpS.w ub) .none),(.val (.int .i64 (UpS.o ub))),(.vec 1 (UpS.x ub) .none),(.val (.int .u32 (UpS.h ub))),(.val (.int .i64 (UpS.m ub))),(.val (.bool (UpS.hm ub))),(.vec 2 (UpS.n ub) .none)])],(tl)⟩ [] 23):=by kernel_rfl
theorem US (o:VO)(lk:bF)(es:bw)(ck:Nat)(x:TV)(d u:Int)(r1 r2 r3:VO)(ub:UpS)(tl:bq)(Pre:Nat→Bs→VT→Prop)(W:Nat→Bs→Int→Int→bF→bw→Nat→VT→Prop)(Q:TV→VT→Prop):ax prog ae (aT [(mH,Nu Pre W)]) aR 300 aU 0 Fs [.ptr 2 0,.agg ub.cells] (cZ o lk es ck x d u [r1,r2,r3] tl) Q=
 (((@Eq (Nat) 0 0)∧
 ((@Eq (Bool) true true)∧
 ((@Eq (List TV) [(.ptr 6 0)] [(.ptr 6 0)])∧
 Pre 3 (UpS.w ub) ⟨[(o),(.map ⟨true,[(.int .u32),(.int .i64)]⟩ (lk) (es) (ck)),(.cells [(.ptr 0 0),(.map 1),(x),(.val (.int .i64 (d))),(.val (.int .i64 (u)))]),(r1),(r2),(r3),(.cells [(.ptr 2 0)]),(.cells [(.vec 2 (UpS.w ub) .none),(.val (.int .i64 (UpS.o ub))),(.vec 1 (UpS.x ub) .none),(.val (.int .u32 (UpS.h ub))),(.val (.int .i64 (UpS.m ub))),(.val (.bool (UpS.hm ub))),(.vec 2 (UpS.n ub) .none)])],(tl)⟩)))∧
 (∀d_15:Int,(∀u_16:Int,(∀lk_17:bF,(∀es_18:bw,(∀ck_19:Nat,(W 3 (UpS.w ub) (d_15) (u_16) (lk_17) (es_18) (ck_19) ⟨[(o),(.map ⟨true,[(.int .u32),(.int .i64)]⟩ (lk) (es) (ck)),(.cells [(.ptr 0 0),(.map 1),(x),(.val (.int .i64 (d))),(.val (.int .i64 (u)))]),(r1),(r2),(r3),(.cells [(.ptr 2 0)]),(.cells [(.vec 2 (UpS.w ub) .none),(.val (.int .i64 (UpS.o ub))),(.vec 1 (UpS.x ub) .none),(.val (.int .u32 (UpS.h ub))),(.val (.int .i64 (UpS.m ub))),(.val (.bool (UpS.hm ub))),(.vec 2 (UpS.n ub) .none)])],(tl)⟩→(((@Eq (Nat) 0 0)∧
 ((@Eq (Bool) true true)∧
 ((@Eq (List TV) [(.ptr 7 0),(.ptr 6 0)] [(.ptr 7 0),(.ptr 6 0)])∧
 Pre 4 (UpS.n ub) ⟨[(o),(.map ⟨true,[(.int .u32),(.int .i64)]⟩ (lk_17) (es_18) (ck_19)),(.cells [(.ptr 0 0),(.map 1),(x),(.val (.int .i64 (d_15))),(.val (.int .i64 (u_16)))]),(r1),(r2),(r3),(.cells [(.ptr 2 0)]),(.cells [(.vec 2 (UpS.w ub) .none),(.val (.int .i64 (UpS.o ub))),(.vec 1 (UpS.x ub) .none),(.val (.int .u32 (UpS.h ub))),(.val (.int .i64 (UpS.m ub))),(.val (.bool (UpS.hm ub))),(.vec 2 (UpS.n ub) .none)])],(tl)⟩)))∧
 (∀d_21:Int,(∀u_22:Int,(∀lk_23:bF,(∀es_24:bw,(∀ck_25:Nat,(W 4 (UpS.n ub) (d_21) (u_22) (lk_23) (es_24) (ck_25) ⟨[(o),(.map ⟨true,[(.int .u32),(.int .i64)]⟩ (lk_17) (es_18) (ck_19)),(.cells [(.ptr 0 0),(.map 1),(x),(.val (.int .i64 (d_15))),(.val (.int .i64 (u_16)))]),(r1),(r2),(r3),(.cells [(.ptr 2 0)]),(.cells [(.vec 2 (UpS.w ub) .none),(.val (.int .i64 (UpS.o ub))),(.vec 1 (UpS.x ub) .none),(.val (.int .u32 (UpS.h ub))),(.val (.int .i64 (UpS.m ub))),(.val (.bool (UpS.hm ub))),(.vec 2 (UpS.n ub) .none)])],(tl)⟩→Q (.tup []) ⟨[(o),(.map ⟨true,[(.int .u32),(.int .i64)]⟩ (lk_23) (es_24) (ck_25)),(.cells [(.ptr 0 0),(.map 1),(x),(.val (.int .i64 (d_21))),(.val (.int .i64 (u_22)))]),(r1),(r2),(r3),(.cells [(.ptr 2 0)]),(.cells [(.vec 2 (UpS.w ub) .none),(.val (.int .i64 (UpS.o ub))),(.vec 1 (UpS.x ub) .none),(.val (.int .u32 (UpS.h ub))),(.val (.int .i64 (UpS.m ub))),(.val (.bool (UpS.hm ub))),(.vec 2 (UpS.n ub) .none)])],(tl)⟩)))))))))))))):=by kernel_rfl
theorem UT (o o2:VO)(lk:bF)(es:bw)(ck:Nat)(x:TV)(d u:Int)(tl:bq)(b L:Bs)(tok:Tok)(c s:Int)(dd:Bs)(Pre:VT→Prop)(W:TV→Int→Int→bF→bw→Nat→bq→Prop)(Q:TV→VT→Prop):ax prog aM (aT [(vA,No o2 L c s dd)]) aR 300 (bX [(0,VD L Pre W,aE prog mI 0)]) 0 mI [.ptr 2 0,.vec 1 b tok] (cZ o lk es ck x d u [] tl) Q=
 (Sx 0 0 (o) (b) (o2) (L) (c) (s) (dd)∧
 ((aE prog mI (0:Nat)=aE prog mI (0:Nat))∧
 (((@Eq (Option Nat) .none .none)∧
 ((@Eq (Nat) 0 0)∧
 ((@Eq (List Nat) [] [])∧
 ((@Eq (Bool) true true)∧
 ((@Eq (List TV) [(.ptr 2 0),(.ptr 3 0),(.ptr 4 0),(.vec 15 (L) .none),(.val (.int .i64 ((↑(length L):Int)))),(.val (.int .i64 0))] [(.ptr 2 0),(.ptr 3 0),(.ptr 4 0),(.vec 15 (L) .none),(.val (.int .i64 ((↑(length L):Int)))),(.val (.int .i64 0))])∧
 Pre ⟨[(o2),(.map ⟨true,[(.int .u32),(.int .i64)]⟩ (lk) (es) (ck)),(.cells [(.ptr 0 0),(.map 1),(x),(.val (.int .i64 (d))),(.val (.int .i64 (u)))]),(.cells [(.val (.int .i64 0)),(.val (.int .i64 0)),(.val (.slice .none 0 0))]),(.cells [(.val (.int .i64 (c))),(.val (.int .i64 (s))),(.vec 1 (dd) .none)])],(tl)⟩)))))∧
 (∀x_18:TV,(∀d_19:Int,(∀u_20:Int,(∀lk_21:bF,(∀es_22:bw,(∀ck_23:Nat,(∀tl_24:bq,(W (x_18) (d_19) (u_20) (lk_21) (es_22) (ck_23) (tl_24)→Q (.agg [(.val (.int .i64 (c))),(.val (.int .i64 (s))),(.vec 1 (dd) .none)]) ⟨[(o2),(.map ⟨true,[(.int .u32),(.int .i64)]⟩ (lk_21) (es_22) (ck_23)),(.cells [(.ptr 0 0),(.map 1),(x_18),(.val (.int .i64 (d_19))),(.val (.int .i64 (u_20)))]),(.cells [(.val (.int .i64 (c))),(.val (.int .i64 (s))),(.vec 1 (dd) .none)]),(.cells [(.val (.int .i64 (c))),(.val (.int .i64 (s))),(.vec 1 (dd) .none)])],(tl_24)⟩))))))))))):=by kernel_rfl
theorem Ka (o:VO)(lk:bF)(es:bw)(ck:Nat)(x:TV)(d u:Int)(r1 r2:VO)(tl:bq)(L G2:Bs)(k2:Nat)(tl2:bq)(M:MsgS)(j:Nat)(Pre:List TV→VT→Prop)(W:List TV→Int→Int→bF→bw→Nat→VT→Prop)(Q:Exit→List TV→VT→List Nat→Nat→Prop):vx prog aM (aT [(Fs,DP Pre W)]) (bB [(999998,.dead,none),(26,.elt M.cells,none),(35,.vec 15 G2 (.tail 0 k2),some λT=>{T with tails:=tl2})]) 300 aU none 0 (cC prog mI 0) (aI 44 rO (sf L j)) (cZ o lk es ck x d u [r1,r2] tl) [] (dw rO Q)=
 (bif decide ((↑j:Int)<(↑(length L):Int))
 then (aS prog (λkk=>(bif beq kk (0:Nat) then (.some [(.val (.int .i64 0)),(.val (.int .i64 29)),(.val (.int .i64 23)),(.val (.int .i64 21)),(.val (.int .i64 19))]) else .none)) (.indexAddr 25 (.tmp 22) (.tmp 24)) [(22,(.vec 15 (L) .none)),(24,(.val (.int .i64 ((↑j:Int)))))] (.elt [(.val (.int .i64 (MsgS.k M))),(.val (.int .i64 (OpS.n (MsgS.op M)))),(.val (.int .i64 (OpS.h (MsgS.op M)))),(.val (.int .u32 (OpS.i (MsgS.op M)))),(.vec 2 (OpS.l (MsgS.op M)) .none),(.vec 2 (UpS.w (MsgS.u M)) .none),(.val (.int .i64 (UpS.o (MsgS.u M)))),(.vec 1 (UpS.x (MsgS.u M)) .none),(.val (.int .u32 (UpS.h (MsgS.u M)))),(.val (.int .i64 (UpS.m (MsgS.u M)))),(.val (.bool (UpS.hm (MsgS.u M)))),(.vec 2 (UpS.n (MsgS.u M)) .none),(.val (.int .i64 (MsgS.c M))),(.val (.int .i64 (MsgS.s M))),(.vec 1 (MsgS.d M) .none)])∧
 (bp prog (λkk=>(bif beq kk (0:Nat) then (.some [(.val (.int .i64 0)),(.val (.int .i64 29)),(.val (.int .i64 23)),(.val (.int .i64 21)),(.val (.int .i64 19))]) else .none)) 0 ⟨[(o),(.map ⟨true,[(.int .u32),(.int .i64)]⟩ (lk) (es) (ck)),(.cells [(.ptr 0 0),(.map 1),(x),(.val (.int .i64 (d))),(.val (.int .i64 (u)))]),(r1),(r2),(.cells [(.val (.int .i64 (MsgS.k M))),(.val (.int .i64 (OpS.n (MsgS.op M)))),(.val (.int .i64 (OpS.h (MsgS.op M)))),(.val (.int .u32 (OpS.i (MsgS.op M)))),(.vec 2 (OpS.l (MsgS.op M)) .none),(.vec 2 (UpS.w (MsgS.u M)) .none),(.val (.int .i64 (UpS.o (MsgS.u M)))),(.vec 1 (UpS.x (MsgS.u M)) .none),(.val (.int .u32 (UpS.h (MsgS.u M)))),(.val (.int .i64 (UpS.m (MsgS.u M)))),(.val (.bool (UpS.hm (MsgS.u M)))),(.vec 2 (UpS.n (MsgS.u M)) .none),(.val (.int .i64 (MsgS.c M))),(.val (.int .i64 (MsgS.s M))),(.vec 1 (MsgS.d M) .none)])],(tl)⟩ (.call ⟨(.builtin .append),#[(.tmp 32),(.tmp 34)],#[25,25]⟩) [(32,(x)),(34,(.vec 15 [[(.val (.int .i64 (MsgS.k M))),(.val (.int .i64 (OpS.n (MsgS.op M)))),(.val (.int .i64 (OpS.h (MsgS.op M)))),(.val (.int .u32 (OpS.i (MsgS.op M)))),(.vec 2 (OpS.l (MsgS.op M)) .none),(.vec 2 (UpS.w (MsgS.u M)) .none),(.val (.int .i64 (UpS.o (MsgS.u M)))),(.vec 1 (UpS.x (MsgS.u M)) .none),(.val (.int .u32 (UpS.h (MsgS.u M)))),(.val (.int .i64 (UpS.m (MsgS.u M)))),(.val (.bool (UpS.hm (MsgS.u M)))),(.vec 2 (UpS.n (MsgS.u M)) .none),(.val (.int .i64 (MsgS.c M))),(.val (.int .i64 (MsgS.s M))),(.vec 1 (MsgS.d M) .none)]] .full))] (.vec 15 (G2) (.tail 0 (k2))) ⟨[(o),(.map ⟨true,[(.int .u32),(.int .i64)]⟩ (lk) (es) (ck)),(.cells [(.ptr 0 0),(.map 1),(x),(.val (.int .i64 (d))),(.val (.int .i64 (u)))]),(r1),(r2),(.cells [(.val (.int .i64 (MsgS.k M))),(.val (.int .i64 (OpS.n (MsgS.op M)))),(.val (.int .i64 (OpS.h (MsgS.op M)))),(.val (.int .u32 (OpS.i (MsgS.op M)))),(.vec 2 (OpS.l (MsgS.op M)) .none),(.vec 2 (UpS.w (MsgS.u M)) .none),(.val (.int .i64 (UpS.o (MsgS.u M)))),(.vec 1 (UpS.x (MsgS.u M)) .none),(.val (.int .u32 (UpS.h (MsgS.u M)))),(.val (.int .i64 (UpS.m (MsgS.u M)))),(.val (.bool (UpS.hm (MsgS.u M)))),(.vec 2 (UpS.n (MsgS.u M)) .none),(.val (.int .i64 (MsgS.c M))),(.val (.int .i64 (MsgS.s M))),(.vec 1 (MsgS.d M) .none)])],(tl2)⟩∧
 (((@Eq (Nat) 0 0)∧
 Pre [(.vec 2 (UpS.w (MsgS.u M)) .none),(.val (.int .i64 (UpS.o (MsgS.u M)))),(.vec 1 (UpS.x (MsgS.u M)) .none),(.val (.int .u32 (UpS.h (MsgS.u M)))),(.val (.int .i64 (UpS.m (MsgS.u M)))),(.val (.bool (UpS.hm (MsgS.u M)))),(.vec 2 (UpS.n (MsgS.u M)) .none)] ⟨[(o),(.map ⟨true,[(.int .u32),(.int .i64)]⟩ (lk) (es) (ck)),(.cells [(.ptr 0 0),(.map 1),(.vec 15 (G2) (.tail 0 (k2))),(.val (.int .i64 (d))),(.val (.int .i64 (u)))]),(r1),(r2),(.cells [(.val (.int .i64 (MsgS.k M))),(.val (.int .i64 (OpS.n (MsgS.op M)))),(.val (.int .i64 (OpS.h (MsgS.op M)))),(.val (.int .u32 (OpS.i (MsgS.op M)))),(.vec 2 (OpS.l (MsgS.op M)) .none),(.vec 2 (UpS.w (MsgS.u M)) .none),(.val (.int .i64 (UpS.o (MsgS.u M)))),(.vec 1 (UpS.x (MsgS.u M)) .none),(.val (.int .u32 (UpS.h (MsgS.u M)))),(.val (.int .i64 (UpS.m (MsgS.u M)))),(.val (.bool (UpS.hm (MsgS.u M)))),(.vec 2 (UpS.n (MsgS.u M)) .none),(.val (.int .i64 (MsgS.c M))),(.val (.int .i64 (MsgS.s M))),(.vec 1 (MsgS.d M) .none)])],(tl2)⟩)∧
 (∀d_19:Int,(∀u_20:Int,(∀lk_21:bF,(∀es_22:bw,(∀ck_23:Nat,(W [(.vec 2 (UpS.w (MsgS.u M)) .none),(.val (.int .i64 (UpS.o (MsgS.u M)))),(.vec 1 (UpS.x (MsgS.u M)) .none),(.val (.int .u32 (UpS.h (MsgS.u M)))),(.val (.int .i64 (UpS.m (MsgS.u M)))),(.val (.bool (UpS.hm (MsgS.u M)))),(.vec 2 (UpS.n (MsgS.u M)) .none)] (d_19) (u_20) (lk_21) (es_22) (ck_23) ⟨[(o),(.map ⟨true,[(.int .u32),(.int .i64)]⟩ (lk) (es) (ck)),(.cells [(.ptr 0 0),(.map 1),(.vec 15 (G2) (.tail 0 (k2))),(.val (.int .i64 (d))),(.val (.int .i64 (u)))]),(r1),(r2),(.cells [(.val (.int .i64 (MsgS.k M))),(.val (.int .i64 (OpS.n (MsgS.op M)))),(.val (.int .i64 (OpS.h (MsgS.op M)))),(.val (.int .u32 (OpS.i (MsgS.op M)))),(.vec 2 (OpS.l (MsgS.op M)) .none),(.vec 2 (UpS.w (MsgS.u M)) .none),(.val (.int .i64 (UpS.o (MsgS.u M)))),(.vec 1 (UpS.x (MsgS.u M)) .none),(.val (.int .u32 (UpS.h (MsgS.u M)))),(.val (.int .i64 (UpS.m (MsgS.u M)))),(.val (.bool (UpS.hm (MsgS.u M)))),(.vec 2 (UpS.n (MsgS.u M)) .none),(.val (.int .i64 (MsgS.c M))),(.val (.int .i64 (MsgS.s M))),(.vec 1 (MsgS.d M) .none)])],(tl2)⟩→Q .normal [(.ptr 2 0),(.ptr 3 0),(.ptr 4 0),(.vec 15 (L) .none),(.val (.int .i64 ((↑(length L):Int)))),(.val (.int .i64 (wrap i64 ((↑j:Int)+(1:Int)))))] ⟨[(o),(.map ⟨true,[(.int .u32),(.int .i64)]⟩ (lk_21) (es_22) (ck_23)),(.cells [(.ptr 0 0),(.map 1),(.vec 15 (G2) (.tail 0 (k2))),(.val (.int .i64 (d_19))),(.val (.int .i64 (u_20)))]),(r1),(r2),(.cells [(.val (.int .i64 (MsgS.k M))),(.val (.int .i64 (OpS.n (MsgS.op M)))),(.val (.int .i64 (OpS.h (MsgS.op M)))),(.val (.int .u32 (OpS.i (MsgS.op M)))),(.vec 2 (OpS.l (MsgS.op M)) .none),(.vec 2 (UpS.w (MsgS.u M)) .none),(.val (.int .i64 (UpS.o (MsgS.u M)))),(.vec 1 (UpS.x (MsgS.u M)) .none),(.val (.int .u32 (UpS.h (MsgS.u M)))),(.val (.int .i64 (UpS.m (MsgS.u M)))),(.val (.bool (UpS.hm (MsgS.u M)))),(.vec 2 (UpS.n (MsgS.u M)) .none),(.val (.int .i64 (MsgS.c M))),(.val (.int .i64 (MsgS.s M))),(.vec 1 (MsgS.d M) .none)])],(tl2)⟩ [] 44)))))))))
 else Q (.exit 0) [(.ptr 2 0),(.ptr 3 0),(.ptr 4 0),(.vec 15 (L) .none),(.val (.int .i64 ((↑(length L):Int)))),(.val (.int .i64 ((↑j:Int))))] ⟨[(o),(.map ⟨true,[(.int .u32),(.int .i64)]⟩ (lk) (es) (ck)),(.cells [(.ptr 0 0),(.map 1),(x),(.val (.int .i64 (d))),(.val (.int .i64 (u)))]),(r1),(r2)],(tl)⟩ [] 44):=by kernel_rfl
theorem UU (o:VO)(lk:bF)(es:bw)(ck:Nat)(x:TV)(d u:Int)(tl:bq)(Pre:Bs→VT→Prop)(W:Bs→TV→VT→VT→Prop)(Q:TV→VT→Prop):ax prog ae (aT [(J2,Nv),(S6,Nw)]) aR 300 (bX [(0,Nx [] Pre W,aE prog qJ 0)]) 0 qJ [.ptr 2 0] (cZ o lk es ck x d u [] tl) Q=
 ((((@Eq (Bool) true true)∧
 (@Eq (Bool) true true))∧
 (((@Eq (Bool) true true)∧
 (@Eq (KS) ⟨true,[(.int .u32),(.int .i64)]⟩ ⟨true,[(.int .u32),(.int .i64)]⟩))∧
 Ta (lk) (es) (ck)))∧
 (∀P:Bs,(S9 (es) (P)→(Tb (P)∧
 ((aE prog qJ (0:Nat)=aE prog qJ (0:Nat))∧
 (((@Eq (Option Nat) .none .none)∧
 ((@Eq (Nat) 0 0)∧
 ((@Eq (List Nat) [] [])∧
 ((@Eq (Bool) true true)∧
 ((@Eq (TV) (.val (.slice .none 0 0)) (.val (.slice .none 0 0)))∧
 ((@Eq (Int) ((↑(length (AK P)):Int)) ((↑(length (AK P)):Int)))∧
 ((@Eq (Int) 0 0)∧
 Pre (AK P) ⟨[(o),(.map ⟨true,[(.int .u32),(.int .i64)]⟩ (lk) (es) (ck)),(.cells [(.ptr 0 0),(.map 1),(x),(.val (.int .i64 (d))),(.val (.int .i64 (u)))]),(.cells [(.map 1)])],(tl)⟩)))))))∧
 (∀x_13:TV,(∀tl_14:bq,(W (AK P) (x_13) ⟨[(o),(.map ⟨true,[(.int .u32),(.int .i64)]⟩ (lk) (es) (ck)),(.cells [(.ptr 0 0),(.map 1),(x),(.val (.int .i64 (d))),(.val (.int .i64 (u)))]),(.cells [(.map 1)])],(tl)⟩ ⟨[(o),(.map ⟨true,[(.int .u32),(.int .i64)]⟩ (lk) (es) (ck)),(.cells [(.ptr 0 0),(.map 1),(x),(.val (.int .i64 (d))),(.val (.int .i64 (u)))]),(.cells [(.map 1)])],(tl_14)⟩→Q (x_13) ⟨[(o),(.map ⟨true,[(.int .u32),(.int .i64)]⟩ (lk) (es) (ck)),(.cells [(.ptr 0 0),(.map 1),(x),(.val (.int .i64 (d))),(.val (.int .i64 (u)))]),(.cells [(.map 1)])],(tl_14)⟩))))))))):=by kernel_rfl
theorem Kb (o:VO)(lk:bF)(es:bw)(ck:Nat)(x:TV)(d u:Int)(r1:VO)(tl:bq)(P:Bs)(t3:TV)(j:Nat)(p:Px)(a:AtV)(R2:Bs)(k2 n2:Nat)(tl2:bq)(Q:Exit→List TV→VT→List Nat→Nat→Prop):vx prog ae bo (bB [(999998,.dead,none),(19,.elt (aK p),none),(28,.agg a.cells,none),(31,.vec 7 R2 (.tail k2 n2),some λT=>{T with tails:=tl2})]) 300 aU none 0 (cC prog qJ 0) (aI 34 zr (vG t3 P j)) (cZ o lk es ck x d u [r1] tl) [] (dw zr Q)=
 (bif decide ((↑j:Int)<(↑(length P):Int))
 then (aS prog (λ_=>.none) (.indexAddr 70 (.tmp 15) (.tmp 17)) [(15,(.vec 2 (P) .none)),(17,(.val (.int .i64 ((↑j:Int)))))] (.elt [(.val (.int .u32 (fst p))),(.val (.int .i64 (snd p)))])∧
 (mh prog (λ_=>.none) ⟨[(o),(.map ⟨true,[(.int .u32),(.int .i64)]⟩ (lk) (es) (ck)),(.cells [(.ptr 0 0),(.map 1),(x),(.val (.int .i64 (d))),(.val (.int .i64 (u)))]),(r1),(.cells [(.val (.int .u32 (fst p))),(.val (.int .i64 (snd p)))])],(tl)⟩ false (.lookup 96 (.tmp 26) (.tmp 27) false) [(26,(.map 1)),(27,(.agg [(.val (.int .u32 (fst p))),(.val (.int .i64 (snd p)))]))] (.agg [(.val (.int .i64 (AtV.o a))),(.vec 1 (iV (AtV.p a)) .none),(.val (.int .u32 (AtV.h a))),(.val (.int .i64 (AtV.m a))),(.val (.bool (AtV.hm a)))])∧
 (bp prog (λ_=>.none) 0 ⟨[(o),(.map ⟨true,[(.int .u32),(.int .i64)]⟩ (lk) (es) (ck)),(.cells [(.ptr 0 0),(.map 1),(x),(.val (.int .i64 (d))),(.val (.int .i64 (u)))]),(r1),(.cells [(.val (.int .u32 (fst p))),(.val (.int .i64 (snd p)))])],(tl)⟩ (.call ⟨(.builtin .append),#[(.tmp 21),(.tmp 30)],#[42,42]⟩) [(21,(t3)),(30,(.vec 7 [[(.val (.int .u32 (fst p))),(.val (.int .i64 (snd p))),(.val (.int .i64 (AtV.o a))),(.vec 1 (iV (AtV.p a)) .none),(.val (.int .u32 (AtV.h a))),(.val (.int .i64 (AtV.m a))),(.val (.bool (AtV.hm a)))]] .full))] (.vec 7 (R2) (.tail (k2) (n2))) ⟨[(o),(.map ⟨true,[(.int .u32),(.int .i64)]⟩ (lk) (es) (ck)),(.cells [(.ptr 0 0),(.map 1),(x),(.val (.int .i64 (d))),(.val (.int .i64 (u)))]),(r1),(.cells [(.val (.int .u32 (fst p))),(.val (.int .i64 (snd p)))])],(tl2)⟩∧
 Q .normal [(.ptr 2 0),(.vec 7 (R2) (.tail (k2) (n2))),(.vec 2 (P) .none),(.val (.int .i64 ((↑(length P):Int)))),(.val (.int .i64 (wrap i64 ((↑j:Int)+(1:Int)))))] ⟨[(o),(.map ⟨true,[(.int .u32),(.int .i64)]⟩ (lk) (es) (ck)),(.cells [(.ptr 0 0),(.map 1),(x),(.val (.int .i64 (d))),(.val (.int .i64 (u)))]),(r1),(.cells [(.val (.int .u32 (fst p))),(.val (.int .i64 (snd p)))])],(tl2)⟩ [] 34)))
 else Q (.exit 0) [(.ptr 2 0),(t3),(.vec 2 (P) .none),(.val (.int .i64 ((↑(length P):Int)))),(.val (.int .i64 ((↑j:Int))))] ⟨[(o),(.map ⟨true,[(.int .u32),(.int .i64)]⟩ (lk) (es) (ck)),(.cells [(.ptr 0 0),(.map 1),(x),(.val (.int .i64 (d))),(.val (.int .i64 (u)))]),(r1)],(tl)⟩ [] 34):=by kernel_rfl
theorem UV (p q:Px)(a b:AtV)(ok:Bool)(Q:TV→VT→Prop):ax prog ae (aT [(Ns,Ft ok)]) aR 300 aU 0 yg [.agg (aK p++a.cells),.agg (aK q++b.cells)] ⟨[],[]⟩ Q=
 (bif av eql (aq ((λvs=>Value.agg (toArray vs)) ((λx=>Value.int u32 (fst p)::x) ((λx=>Value.int i64 (snd p)::x) []))) ((λvs=>Value.agg (toArray vs)) ((λx=>Value.int u32 (fst q)::x) ((λx=>Value.int i64 (snd q)::x) []))))
 then (MC [(.val (.int .i64 (AtV.o a))),(.vec 1 (iV (AtV.p a)) .none),(.val (.int .u32 (AtV.h a))),(.val (.int .i64 (AtV.m a))),(.val (.bool (AtV.hm a)))] [(.val (.int .i64 (AtV.o b))),(.vec 1 (iV (AtV.p b)) .none),(.val (.int .u32 (AtV.h b))),(.val (.int .i64 (AtV.m b))),(.val (.bool (AtV.hm b)))] (ok)∧
 Q (.val (.bool (ok))) ⟨[(.cells [(.val (.int .u32 (fst p))),(.val (.int .i64 (snd p))),(.val (.int .i64 (AtV.o a))),(.vec 1 (iV (AtV.p a)) .none),(.val (.int .u32 (AtV.h a))),(.val (.int .i64 (AtV.m a))),(.val (.bool (AtV.hm a)))]),(.cells [(.val (.int .u32 (fst q))),(.val (.int .i64 (snd q))),(.val (.int .i64 (AtV.o b))),(.vec 1 (iV (AtV.p b)) .none),(.val (.int .u32 (AtV.h b))),(.val (.int .i64 (AtV.m b))),(.val (.bool (AtV.hm b)))])],[]⟩)
 else Q (.val (.bool false)) ⟨[(.cells [(.val (.int .u32 (fst p))),(.val (.int .i64 (snd p))),(.val (.int .i64 (AtV.o a))),(.vec 1 (iV (AtV.p a)) .none),(.val (.int .u32 (AtV.h a))),(.val (.int .i64 (AtV.m a))),(.val (.bool (AtV.hm a)))]),(.cells [(.val (.int .u32 (fst q))),(.val (.int .i64 (snd q))),(.val (.int .i64 (AtV.o b))),(.vec 1 (iV (AtV.p b)) .none),(.val (.int .u32 (AtV.h b))),(.val (.int .i64 (AtV.m b))),(.val (.bool (AtV.hm b)))])],[]⟩):=by kernel_rfl
theorem UW (l m:Bs)(ok:Bool)(Pre:VT→Prop)(Q:TV→VT→Prop):ax prog ae bo aR 300 (bX [(0,VE l m ok Pre,aE prog vE 0)]) 0 vE [.vec 7 l .none,.vec 7 m .none,.fn (.func yg) [] []] ⟨[],[]⟩ Q=
 (bif av neq (aq (Value.int i64 (↑(length l):Int)) (Value.int i64 (↑(length m):Int)))
 then Q (.val (.bool false)) ⟨[],[]⟩
 else ((aE prog vE (0:Nat)=aE prog vE (0:Nat))∧
 (((@Eq (Option Nat) .none .none)∧
 ((@Eq (Nat) 0 0)∧
 ((@Eq (List Nat) [] [])∧
 ((@Eq (Bool) true true)∧
 ((@Eq (List TV) [(.vec 7 (m) .none),(.fn (.func 36) [] []),(.val (.bool false)),(.vec 7 (l) .none),(.val (.int .i64 ((↑(length l):Int)))),(.val (.int .i64 0))] [(.vec 7 (m) .none),(.fn (.func 36) [] []),(.val (.bool false)),(.vec 7 (l) .none),(.val (.int .i64 ((↑(length l):Int)))),(.val (.int .i64 0))])∧
 Pre ⟨[],[]⟩)))))∧
 ((@Eq (Nat) (length l) (length m))∧
 (∀z:Int,(∀bx:List VO,(bif ok
 then Q (.val (.bool true)) ⟨[],[]⟩
 else Q (.val (.bool false)) ⟨(bx),[]⟩))))))):=by kernel_rfl
theorem Kc (l m:Bs)(p q:Px)(a b:AtV)(ok:Bool)(j:Nat)(Q:Exit→List TV→VT→List Nat→Nat→Prop):vx prog ae (aT [(yg,Td ok)]) (bB [(999998,.dead,none),(20,.elt (aK p++a.cells),none),(24,.elt (aK q++b.cells),none)]) 300 aU none 0 (cC prog vE 0) (aI 32 tY (qK l m j)) ⟨[],[]⟩ [] (dw tY Q)=
 (bif decide ((↑j:Int)<(↑(length l):Int))
 then (aS prog (λ_=>.none) (.indexAddr 42 (.tmp 15) (.tmp 17)) [(15,(.vec 7 (l) .none)),(17,(.val (.int .i64 ((↑j:Int)))))] (.elt [(.val (.int .u32 (fst p))),(.val (.int .i64 (snd p))),(.val (.int .i64 (AtV.o a))),(.vec 1 (iV (AtV.p a)) .none),(.val (.int .u32 (AtV.h a))),(.val (.int .i64 (AtV.m a))),(.val (.bool (AtV.hm a)))])∧
 (aS prog (λ_=>.none) (.indexAddr 42 (.tmp 22) (.tmp 23)) [(22,(.vec 7 (m) .none)),(23,(.val (.int .i64 ((↑j:Int)))))] (.elt [(.val (.int .u32 (fst q))),(.val (.int .i64 (snd q))),(.val (.int .i64 (AtV.o b))),(.vec 1 (iV (AtV.p b)) .none),(.val (.int .u32 (AtV.h b))),(.val (.int .i64 (AtV.m b))),(.val (.bool (AtV.hm b)))])∧
 (Tc [(.val (.int .u32 (fst p))),(.val (.int .i64 (snd p))),(.val (.int .i64 (AtV.o a))),(.vec 1 (iV (AtV.p a)) .none),(.val (.int .u32 (AtV.h a))),(.val (.int .i64 (AtV.m a))),(.val (.bool (AtV.hm a)))] [(.val (.int .u32 (fst q))),(.val (.int .i64 (snd q))),(.val (.int .i64 (AtV.o b))),(.vec 1 (iV (AtV.p b)) .none),(.val (.int .u32 (AtV.h b))),(.val (.int .i64 (AtV.m b))),(.val (.bool (AtV.hm b)))] (ok)∧
 (bif !ok
 then Q .ret [(.vec 7 (m) .none),(.fn (.func 36) [] []),(.val (.bool false)),(.vec 7 (l) .none),(.val (.int .i64 ((↑(length l):Int)))),(.val (.int .i64 ((↑j:Int))))] ⟨[(.cells [(.val (.int .u32 (fst p))),(.val (.int .i64 (snd p))),(.val (.int .i64 (AtV.o a))),(.vec 1 (iV (AtV.p a)) .none),(.val (.int .u32 (AtV.h a))),(.val (.int .i64 (AtV.m a))),(.val (.bool (AtV.hm a)))]),(.cells [(.val (.int .u32 (fst q))),(.val (.int .i64 (snd q))),(.val (.int .i64 (AtV.o b))),(.vec 1 (iV (AtV.p b)) .none),(.val (.int .u32 (AtV.h b))),(.val (.int .i64 (AtV.m b))),(.val (.bool (AtV.hm b)))])],[]⟩ [] 32
 else Q .normal [(.vec 7 (m) .none),(.fn (.func 36) [] []),(.val (.bool false)),(.vec 7 (l) .none),(.val (.int .i64 ((↑(length l):Int)))),(.val (.int .i64 (wrap i64 ((↑j:Int)+(1:Int)))))] ⟨[(.cells [(.val (.int .u32 (fst p))),(.val (.int .i64 (snd p))),(.val (.int .i64 (AtV.o a))),(.vec 1 (iV (AtV.p a)) .none),(.val (.int .u32 (AtV.h a))),(.val (.int .i64 (AtV.m a))),(.val (.bool (AtV.hm a)))]),(.cells [(.val (.int .u32 (fst q))),(.val (.int .i64 (snd q))),(.val (.int .i64 (AtV.o b))),(.vec 1 (iV (AtV.p b)) .none),(.val (.int .u32 (AtV.h b))),(.val (.int .i64 (AtV.m b))),(.val (.bool (AtV.hm b)))])],[]⟩ [] 32))))
 else Q (.exit 0) [(.vec 7 (m) .none),(.fn (.func 36) [] []),(.val (.bool false)),(.vec 7 (l) .none),(.val (.int .i64 ((↑(length l):Int)))),(.val (.int .i64 ((↑j:Int))))] ⟨[],[]⟩ [] 32):=by kernel_rfl
theorem UX (l m:Bs)(ok:Bool)(Q:TV→VT→Prop):ax prog ae (aT [(vE,Tf ok)]) aR 300 aU 0 J7 [.vec 7 l .none,.vec 7 m .none] ⟨[],[]⟩ Q=
 (((@Eq (Bool) true true)∧
 Te (l) (m) (ok))∧
 Q (.val (.bool (ok))) ⟨[],[]⟩):=by kernel_rfl
theorem UY (l m:Bs)(ok:Bool)(Pre:VT→Prop)(Q:TV→VT→Prop):ax prog ae bo aR 300 (bX [(0,VF l m ok Pre,aE prog tV 0)]) 0 tV [.vec 7 l .none,.vec 7 m .none] ⟨[],[]⟩ Q=
 (bif av neq (aq (Value.int i64 (↑(length l):Int)) (Value.int i64 (↑(length m):Int)))
 then Q (.val (.bool false)) ⟨[],[]⟩
 else ((aE prog tV (0:Nat)=aE prog tV (0:Nat))∧
 (((@Eq (Option Nat) .none .none)∧
 ((@Eq (Nat) 0 0)∧
 ((@Eq (List Nat) [] [])∧
 ((@Eq (Bool) true true)∧
 ((@Eq (List TV) [(.vec 7 (l) .none),(.vec 7 (m) .none),(.val (.bool false)),(.val (.int .i64 ((↑(length l):Int)))),(.val (.int .i64 0))] [(.vec 7 (l) .none),(.vec 7 (m) .none),(.val (.bool false)),(.val (.int .i64 ((↑(length l):Int)))),(.val (.int .i64 0))])∧
 Pre ⟨[],[]⟩)))))∧
 ((@Eq (Nat) (length l) (length m))∧
 (∀z:Int,(bif ok
 then Q (.val (.bool true)) ⟨[],[]⟩
 else Q (.val (.bool false)) ⟨[],[]⟩)))))):=by kernel_rfl
theorem Kd (l m:Bs)(p q:Px)(a b:AtV)(ok:Bool)(j:Nat)(Q:Exit→List TV→VT→List Nat→Nat→Prop):vx prog ae (aT [(VC,Ft ok)]) (bB [(999998,.dead,none),(18,.elt (aK p++a.cells),none),(23,.elt (aK q++b.cells),none),(30,.elt (aK p++a.cells),none),(35,.elt (aK q++b.cells),none)]) 300 aU none 0 (cC prog tV 0) (aI 42 tZ (qL l m j)) ⟨[],[]⟩ [] (dw tZ Q)=
 (bif decide ((↑j:Int)<(↑(length l):Int))
 then (aS prog (λ_=>.none) (.indexAddr 51 (.tmp 16) (.tmp 17)) [(16,(.vec 7 (l) .none)),(17,(.val (.int .i64 ((↑j:Int)))))] (.elt [(.val (.int .u32 (fst p))),(.val (.int .i64 (snd p))),(.val (.int .i64 (AtV.o a))),(.vec 1 (iV (AtV.p a)) .none),(.val (.int .u32 (AtV.h a))),(.val (.int .i64 (AtV.m a))),(.val (.bool (AtV.hm a)))])∧
 (aS prog (λ_=>.none) (.indexAddr 51 (.tmp 21) (.tmp 22)) [(21,(.vec 7 (m) .none)),(22,(.val (.int .i64 ((↑j:Int)))))] (.elt [(.val (.int .u32 (fst q))),(.val (.int .i64 (snd q))),(.val (.int .i64 (AtV.o b))),(.vec 1 (iV (AtV.p b)) .none),(.val (.int .u32 (AtV.h b))),(.val (.int .i64 (AtV.m b))),(.val (.bool (AtV.hm b)))])∧
 (bif av neq (aq ((λvs=>Value.agg (toArray vs)) ((λx=>Value.int u32 (fst p)::x) ((λx=>Value.int i64 (snd p)::x) []))) ((λvs=>Value.agg (toArray vs)) ((λx=>Value.int u32 (fst q)::x) ((λx=>Value.int i64 (snd q)::x) []))))
 then Q .ret [(.vec 7 (l) .none),(.vec 7 (m) .none),(.val (.bool false)),(.val (.int .i64 ((↑(length l):Int)))),(.val (.int .i64 ((↑j:Int))))] ⟨[],[]⟩ [] 42
 else (aS prog (λ_=>.none) (.indexAddr 51 (.tmp 28) (.tmp 29)) [(28,(.vec 7 (l) .none)),(29,(.val (.int .i64 ((↑j:Int)))))] (.elt [(.val (.int .u32 (fst p))),(.val (.int .i64 (snd p))),(.val (.int .i64 (AtV.o a))),(.vec 1 (iV (AtV.p a)) .none),(.val (.int .u32 (AtV.h a))),(.val (.int .i64 (AtV.m a))),(.val (.bool (AtV.hm a)))])∧
 (aS prog (λ_=>.none) (.indexAddr 51 (.tmp 33) (.tmp 34)) [(33,(.vec 7 (m) .none)),(34,(.val (.int .i64 ((↑j:Int)))))] (.elt [(.val (.int .u32 (fst q))),(.val (.int .i64 (snd q))),(.val (.int .i64 (AtV.o b))),(.vec 1 (iV (AtV.p b)) .none),(.val (.int .u32 (AtV.h b))),(.val (.int .i64 (AtV.m b))),(.val (.bool (AtV.hm b)))])∧
 (MC [(.val (.int .i64 (AtV.o a))),(.vec 1 (iV (AtV.p a)) .none),(.val (.int .u32 (AtV.h a))),(.val (.int .i64 (AtV.m a))),(.val (.bool (AtV.hm a)))] [(.val (.int .i64 (AtV.o b))),(.vec 1 (iV (AtV.p b)) .none),(.val (.int .u32 (AtV.h b))),(.val (.int .i64 (AtV.m b))),(.val (.bool (AtV.hm b)))] (ok)∧
 (bif !ok
 then Q .ret [(.vec 7 (l) .none),(.vec 7 (m) .none),(.val (.bool false)),(.val (.int .i64 ((↑(length l):Int)))),(.val (.int .i64 ((↑j:Int))))] ⟨[],[]⟩ [] 42
 else Q .normal [(.vec 7 (l) .none),(.vec 7 (m) .none),(.val (.bool false)),(.val (.int .i64 ((↑(length l):Int)))),(.val (.int .i64 (wrap i64 ((↑j:Int)+(1:Int)))))] ⟨[],[]⟩ [] 42)))))))
 else Q (.exit 0) [(.vec 7 (l) .none),(.vec 7 (m) .none),(.val (.bool false)),(.val (.int .i64 ((↑(length l):Int)))),(.val (.int .i64 ((↑j:Int))))] ⟨[],[]⟩ [] 42):=by kernel_rfl
theorem UZ (l:Bs)(W:TV→bq→Prop)(Q:TV→VT→Prop):ax prog ae bo aR 300 (bX [(0,VG l W,aE prog tW 0)]) 0 tW [.vec 7 l .none] ⟨[],[]⟩ Q=
 ((aE prog tW (0:Nat)=aE prog tW (0:Nat))∧
 (((@Eq (Option Nat) .none .none)∧
 ((@Eq (Nat) 0 0)∧
 ((@Eq (List Nat) [] [])∧
 ((@Eq (Bool) true true)∧
 ((@Eq (List TV) [(.val (.slice .none 0 0)),(.vec 7 (l) .none),(.val (.int .i64 ((↑(length l):Int)))),(.val (.int .i64 0))] [(.val (.slice .none 0 0)),(.vec 7 (l) .none),(.val (.int .i64 ((↑(length l):Int)))),(.val (.int .i64 0))])∧
 (@Eq (VT) ⟨[],[]⟩ ⟨[],[]⟩))))))∧
 (∀x:TV,(∀tl:bq,(W (x) (tl)→Q (x) ⟨[],(tl)⟩))))):=by kernel_rfl
theorem Ke (l R2:Bs)(t3:TV)(tl tl2:bq)(n2:Nat)(p:Px)(a:AtV)(j:Nat)(Q:Exit→List TV→VT→List Nat→Nat→Prop):vx prog ae bo (bB [(999998,.dead,none),(10,.elt (aK p++a.cells),none),(19,.vec 7 R2 (.tail 0 n2),some λT=>{T with tails:=tl2})]) 300 aU none 0 (cC prog tW 0) (aI 22 zt (t6 t3 l j)) ⟨[],tl⟩ [] (dw zt Q)=
 (bif decide ((↑j:Int)<(↑(length l):Int))
 then (aS prog (λ_=>.none) (.indexAddr 42 (.tmp 6) (.tmp 8)) [(6,(.vec 7 (l) .none)),(8,(.val (.int .i64 ((↑j:Int)))))] (.elt [(.val (.int .u32 (fst p))),(.val (.int .i64 (snd p))),(.val (.int .i64 (AtV.o a))),(.vec 1 (iV (AtV.p a)) .none),(.val (.int .u32 (AtV.h a))),(.val (.int .i64 (AtV.m a))),(.val (.bool (AtV.hm a)))])∧
 (bp prog (λ_=>.none) 0 ⟨[(.cells [(.val (.int .u32 (fst p))),(.val (.int .i64 (snd p))),(.val (.int .i64 (AtV.o a))),(.vec 1 (iV (AtV.p a)) .none),(.val (.int .u32 (AtV.h a))),(.val (.int .i64 (AtV.m a))),(.val (.bool (AtV.hm a)))])],(tl)⟩ (.call ⟨(.builtin .append),#[(.tmp 12),(.tmp 18)],#[51,51]⟩) [(12,(t3)),(18,(.vec 7 [[(.val (.int .u32 (fst p))),(.val (.int .i64 (snd p))),(.val (.int .i64 (AtV.o a))),(.vec 1 (iV (AtV.p a)) .none),(.val (.int .u32 (AtV.h a))),(.val (.int .i64 (AtV.m a))),(.val (.bool (AtV.hm a)))]] .full))] (.vec 7 (R2) (.tail 0 (n2))) ⟨[(.cells [(.val (.int .u32 (fst p))),(.val (.int .i64 (snd p))),(.val (.int .i64 (AtV.o a))),(.vec 1 (iV (AtV.p a)) .none),(.val (.int .u32 (AtV.h a))),(.val (.int .i64 (AtV.m a))),(.val (.bool (AtV.hm a)))])],(tl2)⟩∧
 Q .normal [(.vec 7 (R2) (.tail 0 (n2))),(.vec 7 (l) .none),(.val (.int .i64 ((↑(length l):Int)))),(.val (.int .i64 (wrap i64 ((↑j:Int)+(1:Int)))))] ⟨[(.cells [(.val (.int .u32 (fst p))),(.val (.int .i64 (snd p))),(.val (.int .i64 (AtV.o a))),(.vec 1 (iV (AtV.p a)) .none),(.val (.int .u32 (AtV.h a))),(.val (.int .i64 (AtV.m a))),(.val (.bool (AtV.hm a)))])],(tl2)⟩ [] 22))
 else Q (.exit 0) [(t3),(.vec 7 (l) .none),(.val (.int .i64 ((↑(length l):Int)))),(.val (.int .i64 ((↑j:Int))))] ⟨[],(tl)⟩ [] 22):=by kernel_rfl
theorem U0 (o:VO)(Q:TV→VT→Prop):ax prog aM (aT [(7,Sy o)]) aR 300 aU 0 DO [] ⟨[],[]⟩ Q=
 (Sw (o) 0∧
 Q (.ptr 2 0) ⟨[(o),(.map ⟨true,[(.int .u32),(.int .i64)]⟩ (λ_=>.none) [] 0),(.cells [(.ptr 0 0),(.map 1),(.val (.slice .none 0 0)),(.val (.int .i64 0)),(.val (.int .i64 0))])],[]⟩):=by kernel_rfl
theorem U1 (o:VO)(F:VwF)(b:Bs)(tok:Tok)(Pre:Bs→VO→bF→bw→Nat→TV→bq→Bs→Prop)(W:Bs→bF→bw→Nat→TV→bq→Prop)(Pre2:Bs→VO→bF→bw→Nat→TV→bq→Prop)(Q:TV→VT→Prop):ax prog aM (aT [(DO,Fu o),(mI,AL F Pre W),(qJ,Fv F Pre2)]) (bB [(999998,.dead,none)]) 300 aU 0 J6 [.vec 1 b tok] ⟨[],[]⟩ Q=
 (∃w:Bs,((((@Eq (Nat) 0 0)∧
 ((@Eq (Bool) false false)∧
 ((@Eq (Bool) false false)∧
 (@Eq (Bool) false false))))∧
 ((@Eq (KS) ⟨true,[(.int .u32),(.int .i64)]⟩ ⟨true,[(.int .u32),(.int .i64)]⟩)∧
 Pre (w) (o) (λ_=>.none) [] 0 (.val (.slice .none 0 0)) [] (b)))∧
 (∀lk':bF,(∀es':bw,(∀ck':Nat,(∀x':TV,(∀d:Int,(∀u:Int,(∀tl:bq,(W (w++b) (lk') (es') (ck') (x') (tl)→(∃w_17:Bs,((((@Eq (Nat) 0 0)∧
 ((@Eq (Bool) false false)∧
 ((@Eq (Bool) false false)∧
 (@Eq (Bool) false false))))∧
 ((@Eq (KS) ⟨true,[(.int .u32),(.int .i64)]⟩ ⟨true,[(.int .u32),(.int .i64)]⟩)∧
 Pre2 (w_17) (F.1 (w++b)) (lk') (es') (ck') (x') (tl)))∧
 (((@Eq (Option TV) (.some (.agg [(.val (.int .i64 (VwF.fc F (w++b)))),(.val (.int .i64 (VwF.fs F (w++b)))),(.vec 1 (VwF.fd F (w++b)) .none)])) (.some (.agg [(.val (.int .i64 (VwF.fc F (w++b)))),(.val (.int .i64 (VwF.fs F (w++b)))),(.vec 1 (VwF.fd F (w++b)) .none)])))∧
 True)∧
 Q (.tup [(.vec 7 (VwF.rx F w_17) .none),(.agg [(.val (.int .i64 (VwF.fc F (w++b)))),(.val (.int .i64 (VwF.fs F (w++b)))),(.vec 1 (VwF.fd F (w++b)) .none)])]) ⟨[(.cells [(.val (.int .i64 (VwF.fc F (w++b)))),(.val (.int .i64 (VwF.fs F (w++b)))),(.vec 1 (VwF.fd F (w++b)) .none)]),(F.1 (w++b)),(.map ⟨true,[(.int .u32),(.int .i64)]⟩ (lk') (es') (ck')),(.cells [(.ptr 1 0),(.map 2),(x'),(.val (.int .i64 (d))),(.val (.int .i64 (u)))]),(.cells [(.val (.int .i64 (VwF.fc F (w++b)))),(.val (.int .i64 (VwF.fs F (w++b)))),(.vec 1 (VwF.fd F (w++b)) .none)])],(tl)⟩))))))))))))):=by kernel_rfl
theorem U2 (o:VO)(F:VwF)(b c2 cuts:Bs)(Pre:Bs→VO→bF→bw→Nat→TV→bq→Bs→Prop)(W:Bs→bF→bw→Nat→TV→bq→Prop)(Pre2:Bs→VO→bF→bw→Nat→TV→bq→Prop)(Pre3:Bs→Prop)(Pre4:Bs→VO→bF→bw→Nat→TV→bq→Prop)(W4:Bs→Bs→Bs→bF→bw→Nat→TV→bq→Prop)(Q:TV→VT→Prop):ax prog aM (aT [(Nt,A9),(J6,Ny F Pre3),(DO,Fu o),(mI,AL F Pre W),(qJ,Fv F Pre2),(J7,AM),(tW,NA),(tV,AM),(S7,Nn)]) aR 300 (bX [(0,NB F cuts Pre4 W4,aE prog vF 0)]) 0 vF [.vec 1 b .none,.vec 1 c2 .none,.vec 1 cuts .none] ⟨[],[]⟩ Q=
 (bif decide ((↑(length b):Int)>(10000:Int))
 then Q (.val (.bool true)) ⟨[],[]⟩
 else (bif decide ((↑(length c2):Int)>(10000:Int))
 then Q (.val (.bool true)) ⟨[],[]⟩
 else (bif decide ((↑(length cuts):Int)>(100:Int))
 then Q (.val (.bool true)) ⟨[],[]⟩
 else (Pre3 (b)∧
 (Pre3 (c2)∧
 ((aE prog vF (0:Nat)=aE prog vF (0:Nat))∧
 (((@Eq (Option Nat) .none .none)∧
 ((@Eq (Nat) 0 0)∧
 ((@Eq (List Nat) [] [])∧
 ((@Eq (Bool) true true)∧
 ((@Eq (Nat) 0 0)∧
 ((@Eq (Nat) 4 4)∧
 ((@Eq (TV) (.ptr 2 0) (.ptr 2 0))∧
 ((@Eq (TV) (.map 3) (.map 3))∧
 ((@Eq (KS) ⟨true,[(.int .u32),(.int .i64)]⟩ ⟨true,[(.int .u32),(.int .i64)]⟩)∧
 ((@Eq (List (List TV)) (cuts) (cuts))∧
 ((@Eq (Int) ((↑(length cuts):Int)) ((↑(length cuts):Int)))∧
 ((@Eq (Int) 0 0)∧
 Pre4 (b) (o) (λ_=>.none) [] 0 (.val (.slice .none 0 0)) []))))))))))))∧
 (∀w:Bs,(∀rb:Bs,(∀lk':bF,(∀es':bw,(∀ck':Nat,(∀x':TV,(∀d:Int,(∀u:Int,(∀tl:bq,(W4 (b) (w) (rb) (lk') (es') (ck') (x') (tl)→(∃w_22:Bs,((((@Eq (Nat) 0 0)∧
 ((@Eq (Bool) false false)∧
 ((@Eq (Bool) false false)∧
 (@Eq (Bool) false false))))∧
 ((@Eq (KS) ⟨true,[(.int .u32),(.int .i64)]⟩ ⟨true,[(.int .u32),(.int .i64)]⟩)∧
 Pre (w_22) (F.1 w) (lk') (es') (ck') (x') (tl) (rb)))∧
 (∀lk'_23:bF,(∀es'_24:bw,(∀ck'_25:Nat,(∀x'_26:TV,(∀d_27:Int,(∀u_28:Int,(∀tl_29:bq,(W (w_22++rb) (lk'_23) (es'_24) (ck'_25) (x'_26) (tl_29)→(R7 [(.val (.int .i64 (VwF.fc F b))),(.val (.int .i64 (VwF.fs F b))),(.vec 1 (VwF.fd F b) .none)] [(.val (.int .i64 (VwF.fc F (w_22++rb)))),(.val (.int .i64 (VwF.fs F (w_22++rb)))),(.vec 1 (VwF.fd F (w_22++rb)) .none)]∧
 (∃w_31:Bs,((((@Eq (Nat) 0 0)∧
 ((@Eq (Bool) false false)∧
 ((@Eq (Bool) false false)∧
 (@Eq (Bool) false false))))∧
 ((@Eq (KS) ⟨true,[(.int .u32),(.int .i64)]⟩ ⟨true,[(.int .u32),(.int .i64)]⟩)∧
 Pre2 (w_31) (F.1 (w_22++rb)) (lk'_23) (es'_24) (ck'_25) (x'_26) (tl_29)))∧
 ((mY (VwF.rx F w_31)∧
 mY (VwF.rx F b))∧
 (bif Fw (VwF.rx F w_31) (VwF.rx F b)
 then ((mY (VwF.rx F b)∧
 mY (VwF.rx F c2))∧
 (mY (VwF.rx F b)∧
 (mY (VwF.rx F c2)∧
 ((mY (VwF.rx F b)∧
 mY (VwF.rx F c2))∧
 (bif av eql (aq (Value.bool (Fw (VwF.rx F b) (VwF.rx F c2))) (Value.bool (Fw (VwF.rx F b) (VwF.rx F c2))))
 then Q (.val (.bool true)) ⟨[(.cells [(.val (.int .i64 (VwF.fc F b))),(.val (.int .i64 (VwF.fs F b))),(.vec 1 (VwF.fd F b) .none)]),(.cells [(.val (.int .i64 (VwF.fc F c2))),(.val (.int .i64 (VwF.fs F c2))),(.vec 1 (VwF.fd F c2) .none)]),(F.1 (w_22++rb)),(.map ⟨true,[(.int .u32),(.int .i64)]⟩ (lk'_23) (es'_24) (ck'_25)),(.cells [(.ptr 2 0),(.map 3),(x'_26),(.val (.int .i64 (d_27))),(.val (.int .i64 (u_28)))]),(.cells [(.val (.int .i64 (VwF.fc F (w_22++rb)))),(.val (.int .i64 (VwF.fs F (w_22++rb)))),(.vec 1 (VwF.fd F (w_22++rb)) .none)])],(tl_29)⟩
 else Q (.val (.bool false)) ⟨[(.cells [(.val (.int .i64 (VwF.fc F b))),(.val (.int .i64 (VwF.fs F b))),(.vec 1 (VwF.fd F b) .none)]),(.cells [(.val (.int .i64 (VwF.fc F c2))),(.val (.int .i64 (VwF.fs F c2))),(.vec 1 (VwF.fd F c2) .none)]),(F.1 (w_22++rb)),(.map ⟨true,[(.int .u32),(.int .i64)]⟩ (lk'_23) (es'_24) (ck'_25)),(.cells [(.ptr 2 0),(.map 3),(x'_26),(.val (.int .i64 (d_27))),(.val (.int .i64 (u_28)))]),(.cells [(.val (.int .i64 (VwF.fc F (w_22++rb)))),(.val (.int .i64 (VwF.fs F (w_22++rb)))),(.vec 1 (VwF.fd F (w_22++rb)) .none)])],(tl_29)⟩)))))
 else Q (.val (.bool false)) ⟨[(.cells [(.val (.int .i64 (VwF.fc F b))),(.val (.int .i64 (VwF.fs F b))),(.vec 1 (VwF.fd F b) .none)]),(.cells [(.val (.int .i64 (VwF.fc F c2))),(.val (.int .i64 (VwF.fs F c2))),(.vec 1 (VwF.fd F c2) .none)]),(F.1 (w_22++rb)),(.map ⟨true,[(.int .u32),(.int .i64)]⟩ (lk'_23) (es'_24) (ck'_25)),(.cells [(.ptr 2 0),(.map 3),(x'_26),(.val (.int .i64 (d_27))),(.val (.int .i64 (u_28)))]),(.cells [(.val (.int .i64 (VwF.fc F (w_22++rb)))),(.val (.int .i64 (VwF.fs F (w_22++rb)))),(.vec 1 (VwF.fd F (w_22++rb)) .none)])],(tl_29)⟩)))))))))))))))))))))))))))))))):=by kernel_rfl
theorem DQ (f1 f2 o:VO)(F:VwF)(lk:bF)(es:bw)(ck:Nat)(x:TV)(d u:Int)(tl:bq)(R R2 rb pb rb2 cuts:Bs)(z:Int)(j:Nat)(Pre:Bs→VO→bF→bw→Nat→TV→bq→Bs→Prop)(W:Bs→bF→bw→Nat→TV→bq→Prop)(Q:Exit→List TV→VT→List Nat→Nat→Prop):vx prog aM (aT [(mI,AL F Pre W)]) (bB [(999998,.dead,none),(47,.elt [.val (.int .u8 z)],none),(60,.vec 1 pb .none,none),(64,.vec 1 rb2 .none,none)]) 300 aU none 0 (cC prog vF 0) (aI 92 t7 (t8 R R2 rb cuts j)) (uc f1 f2 o lk es ck x d u tl) [] (dw t7 Q)=
 (bif decide ((↑j:Int)<(↑(length cuts):Int))
 then (aS prog (λkk=>(bif beq kk (0:Nat) then (.some [(.val (.int .i64 0)),(.val (.int .i64 29)),(.val (.int .i64 23)),(.val (.int .i64 21)),(.val (.int .i64 19))]) else .none)) (.indexAddr 22 (.tmp 43) (.tmp 45)) [(43,(.vec 1 (cuts) .none)),(45,(.val (.int .i64 ((↑j:Int)))))] (.elt [(.val (.int .u8 (z)))])∧
 (bif decide (wrap i64 z>(↑(length rb):Int))
 then (aS prog (λkk=>(bif beq kk (0:Nat) then (.some [(.val (.int .i64 0)),(.val (.int .i64 29)),(.val (.int .i64 23)),(.val (.int .i64 21)),(.val (.int .i64 19))]) else .none)) (.slice 22 (.tmp 58) .none (.some (.tmp 59)) .none) [(58,(.vec 1 (rb) .none)),(59,(.val (.int .i64 ((↑(length rb):Int)))))] (.vec 1 (pb) .none)∧
 (∃w:Bs,((((@Eq (Nat) 0 0)∧
 ((@Eq (Bool) false false)∧
 ((@Eq (Bool) false false)∧
 (@Eq (Bool) false false))))∧
 ((@Eq (KS) ⟨true,[(.int .u32),(.int .i64)]⟩ ⟨true,[(.int .u32),(.int .i64)]⟩)∧
 Pre (w) (o) (lk) (es) (ck) (x) (tl) (pb)))∧
 (∀lk':bF,(∀es':bw,(∀ck':Nat,(∀x':TV,(∀d_27:Int,(∀u_28:Int,(∀tl_29:bq,(W (w++pb) (lk') (es') (ck') (x') (tl_29)→(aS prog (λkk=>(bif beq kk (0:Nat) then (.some [(.val (.int .i64 0)),(.val (.int .i64 29)),(.val (.int .i64 23)),(.val (.int .i64 21)),(.val (.int .i64 19))]) else .none)) (.slice 22 (.tmp 62) (.some (.tmp 63)) .none .none) [(62,(.vec 1 (rb) .none)),(63,(.val (.int .i64 ((↑(length rb):Int)))))] (.vec 1 (rb2) .none)∧
 Q .normal [(.vec 7 (R) .none),(.ptr 0 0),(.vec 7 (R2) .none),(.ptr 4 0),(.vec 1 (rb2) .none),(.vec 1 (cuts) .none),(.val (.int .i64 ((↑(length cuts):Int)))),(.val (.int .i64 (wrap i64 ((↑j:Int)+(1:Int)))))] ⟨[(f1),(f2),(F.1 (w++pb)),(.map ⟨true,[(.int .u32),(.int .i64)]⟩ (lk') (es') (ck')),(.cells [(.ptr 2 0),(.map 3),(x'),(.val (.int .i64 (d_27))),(.val (.int .i64 (u_28)))])],(tl_29)⟩ [] 92))))))))))))
 else (aS prog (λkk=>(bif beq kk (0:Nat) then (.some [(.val (.int .i64 0)),(.val (.int .i64 29)),(.val (.int .i64 23)),(.val (.int .i64 21)),(.val (.int .i64 19))]) else .none)) (.slice 22 (.tmp 58) .none (.some (.tmp 59)) .none) [(58,(.vec 1 (rb) .none)),(59,(.val (.int .i64 (wrap i64 z))))] (.vec 1 (pb) .none)∧
 (∃w:Bs,((((@Eq (Nat) 0 0)∧
 ((@Eq (Bool) false false)∧
 ((@Eq (Bool) false false)∧
 (@Eq (Bool) false false))))∧
 ((@Eq (KS) ⟨true,[(.int .u32),(.int .i64)]⟩ ⟨true,[(.int .u32),(.int .i64)]⟩)∧
 Pre (w) (o) (lk) (es) (ck) (x) (tl) (pb)))∧
 (∀lk':bF,(∀es':bw,(∀ck':Nat,(∀x':TV,(∀d_27:Int,(∀u_28:Int,(∀tl_29:bq,(W (w++pb) (lk') (es') (ck') (x') (tl_29)→(aS prog (λkk=>(bif beq kk (0:Nat) then (.some [(.val (.int .i64 0)),(.val (.int .i64 29)),(.val (.int .i64 23)),(.val (.int .i64 21)),(.val (.int .i64 19))]) else .none)) (.slice 22 (.tmp 62) (.some (.tmp 63)) .none .none) [(62,(.vec 1 (rb) .none)),(63,(.val (.int .i64 (wrap i64 z))))] (.vec 1 (rb2) .none)∧
 Q .normal [(.vec 7 (R) .none),(.ptr 0 0),(.vec 7 (R2) .none),(.ptr 4 0),(.vec 1 (rb2) .none),(.vec 1 (cuts) .none),(.val (.int .i64 ((↑(length cuts):Int)))),(.val (.int .i64 (wrap i64 ((↑j:Int)+(1:Int)))))] ⟨[(f1),(f2),(F.1 (w++pb)),(.map ⟨true,[(.int .u32),(.int .i64)]⟩ (lk') (es') (ck')),(.cells [(.ptr 2 0),(.map 3),(x'),(.val (.int .i64 (d_27))),(.val (.int .i64 (u_28)))])],(tl_29)⟩ [] 92))))))))))))))
 else Q (.exit 0) [(.vec 7 (R) .none),(.ptr 0 0),(.vec 7 (R2) .none),(.ptr 4 0),(.vec 1 (rb) .none),(.vec 1 (cuts) .none),(.val (.int .i64 ((↑(length cuts):Int)))),(.val (.int .i64 ((↑j:Int))))] ⟨[(f1),(f2),(o),(.map ⟨true,[(.int .u32),(.int .i64)]⟩ (lk) (es) (ck)),(.cells [(.ptr 2 0),(.map 3),(x),(.val (.int .i64 (d))),(.val (.int .i64 (u)))])],(tl)⟩ [] 92):=by kernel_rfl
end
set_option maxRecDepth 100000
section
open Go.RowKit Go.Maps Go.Sort
section
variable {o:VO}{lk:bF}{es:bw}{ck:Nat}{x:TV}{d u:Int}{tl:bq}{W:List bA}
def yj (x:TV)(tl:bq):Prop:=∀n m,tl.length≤m→x.ren (ap n) (ap m)=x
theorem iQ {n j:Nat}(h:j<n):ap n j=some j:=by simp [ap,h]
theorem mc (ho:∀f g,o.ren f g=o)(hx:yj x tl)(h:TbOk W lk es ck){l:List VO}(n m:Nat)(hm:tl.length≤m)(hn:n=3+l.length)(hl:∀v∈l,v.ren (ap n) (ap m)=v)(l2:List VO):VT.keep (cZ o lk es ck x d u (l++l2) tl) n m=cZ o lk es ck x d u l tl:=by
 have e1:yh o lk es ck x d u (l++l2)=yh o lk es ck x d u l++l2:=rfl
 have e2:(yh o lk es ck x d u l).length=n:=by
  rw [hn]
  simp only [yh,length_cons];omega
 have e3:(yh o lk es ck x d u l).map (VO.ren (ap n) (ap m))=yh o lk es ck x d u l:=by
  simp only [yh,map_cons,ho,h.ren]
  congr 1
  congr 1
  ·simp only [lq,VO.ren,aw,TV.ren,iQ (show 0<n by omega),iQ (show 1<n by omega),hx n m hm]
   congr 1
   conv=>rhs;rw [←map_id l]
   exact map_congr_left hl
 simp only [VT.keep,cZ]
 rw [e1,List.take_left' e2,e3,List.take_of_length_le hm]
theorem DR {x i:Operand}{l:List (Nat × TV)}{L:List (List TV)}{tok:Tok}{k:IntKind}{z:Int}{a:List TV}(hx:aA ae l x=.vec 2 L tok)(hz:aA ae l i=.val (.int k z))(h0:0≤z)(he:L[z.toNat]?=some a):aS prog ae (.indexAddr 70 x i) l (.elt a):=by
 obtain ⟨inf,z0,i1,i2,_⟩:=J4
 exact fp (inf:=inf) underlying70 i1 (by rw [i2];exact hx) hz h0 he
def gu (W:List bA)(ps:List Px):List bA:=ps.foldl fM W
def j4 (W:List bA)(ps:List Px)(a:AtV):List bA:=ps.foldl (λW p=>jF W (p,a)) W
theorem HI {ps:List Px}{j:Nat}{p:Px}(h:ps[j]?=some p):gu W (ps.take (j+1))=fM (gu W (ps.take j)) p:=by
 unfold gu
 rw [take_add_one,h,foldl_append];rfl
theorem HJ {ps:List Px}{a:AtV}{j:Nat}{p:Px}(h:ps[j]?=some p):j4 W (ps.take (j+1)) a=jF (j4 W (ps.take j) a) (p,a):=by
 unfold j4
 rw [take_add_one,h,foldl_append];rfl
theorem AN (ps:List Px):∀W:List bA,(gu W ps).length≤W.length:=by
 induction ps with
 |nil=>exact λW=>le_refl _
 |cons p ps ih=>exact λW=>le_trans (ih _) (pS W p)
theorem AO (ps:List Px)(a:AtV):∀W:List bA,(j4 W ps a).length≤W.length+ps.length:=by
 induction ps with
 |nil=>exact λW=>le_refl _
 |cons p ps ih=>
  intro W
  have h1:=ih (jF W (p,a))
  have h2:=DL W (p,a)
  show (j4 (jF W (p,a)) ps a).length≤_
  simp only [length_cons];omega
def jN (ub:UpS):AtV:=⟨ub.o,ub.x.map iZ,ub.h,ub.m,ub.hm⟩
theorem HK (l:List Int):(iV l).map iZ=l:=by
 unfold iV
 rw [map_map]
 exact (map_congr_left λz _=>rfl).trans (map_id _)
theorem Tg {ub:UpS}(h:IvWf ub.x):iV (jN ub).p=ub.x:=by
 obtain ⟨l,hl,_⟩:=h
 simp only [jN,hl,HK]
theorem pB {j len:Nat}(h:j<len)(hl:len≤64000000):wrap i64 ((j:Int)+(1:Int))=((j+1:Nat):Int):=by
 simp only [wrap,IntKind.bits,signed];simp;omega
variable {r1 r2 r3:VO}{ub:UpS}
structure BxOk (r1 r2 r3:VO) (ub:UpS):Prop where
 h1:∀f g,r1.ren f g=r1
 h2:∀f g,r2.ren f g=r2
 h3:∀f g,r3.ren f g=r3
 hu:UpWf ub
theorem BxOk.keep (h:BxOk r1 r2 r3 ub)(g:Nat→Option Nat):∀v∈ [r1,r2,r3,.cells [.ptr 2 0],.cells ub.cells],v.ren (ap 8) g=v:=λv hv=>by
 simp only [mem_cons,not_mem_nil,or_false] at hv
 rcases hv with rfl | rfl | rfl | rfl | rfl
 ·exact h.h1 _ _
 ·exact h.h2 _ _
 ·exact h.h3 _ _
 ·rfl
 ·simp only [VO.ren,h.hu.ren]
theorem Th (ho:∀f g,o.ren f g=o)(hx:yj x tl)(hb:BxOk r1 r2 r3 ub)(hT:TbOk W lk es ck){ps:List Px}(hp:ps.length≤64000000):VCx prog ae 0 mH [.vec 2 (ps.map aK) .none,.fn (.func sc) [] [.ptr 6 0],.ptr 2 3] (cZ o lk es ck x d u [r1,r2,r3,.cells [.ptr 2 0],.cells ub.cells] tl) λy T'=>y=.tup []∧∃d' lk' es' ck',TbOk (gu W ps) lk' es' ck'∧T'=cZ o lk' es' ck' x d' u [r1,r2,r3,.cells [.ptr 2 0],.cells ub.cells] tl:=by
 have hL:dy prog ae (bX [(0,S8 sc [.ptr 6 0] 3 (ps.map aK) (λT=>T=cZ o lk es ck x d u [r1,r2,r3,.cells [.ptr 2 0],.cells ub.cells] tl) (λd' u' lk' es' ck'=>u'=u∧TbOk (gu W ps) lk' es' ck'),aE prog mH 0)]):=bO λq hq=>by
  obtain rfl:=mem_singleton.1 hq
  rintro rd ro σ T D K ⟨⟨rfl,rfl,rfl,hn,hpk,rfl⟩,hK⟩
  refine cd (ad:= []) (R:=λK=>∀(d' u':Int) (lk':bF) (es':bw) (ck':Nat),(u'=u∧TbOk (gu W ps) lk' es' ck')→K .normal (aI 23 pT (na sc [.ptr 6 0] 3 (ps.map aK) (ps.map aK).length)) (yi (cZ o lk es ck x d u [r1,r2,r3,.cells [.ptr 2 0],.cells ub.cells] tl) d' u' lk' es' ck') []) (λK hK=> ?_) none 0 σ _ [] K ⟨⟨rfl,rfl,rfl,trivial,rfl,hn,hpk⟩,hK⟩
  have hlen:(ps.map aK).length=ps.length:=length_map _
  refine dM (ι:=Nat × bF × bw × Nat × Int) (f:=mH) (id:=0) (by kernel_rfl) 23 pT (λs=>ps.length-s.1) (λs=>na sc [.ptr 6 0] 3 (ps.map aK) s.1) (λs=>cZ o s.2.1 s.2.2.1 s.2.2.2.1 x s.2.2.2.2 u [r1,r2,r3,.cells [.ptr 2 0],.cells ub.cells] tl) (λs=>s.1≤ps.length∧TbOk (gu W (ps.take s.1)) s.2.1 s.2.2.1 s.2.2.2.1) 8 tl.length (λ_ _=>⟨le_refl _,le_refl _⟩)
   (λe vs T=>e=.normal∧vs=na sc [.ptr 6 0] 3 (ps.map aK) (ps.map aK).length∧∃d' lk' es' ck',TbOk (gu W ps) lk' es' ck'∧T=cZ o lk' es' ck' x d' u [r1,r2,r3,.cells [.ptr 2 0],.cells ub.cells] tl) (λs hs=> ?_) (0,lk,es,ck,d) ⟨zero_le _,hT⟩ K (λe vs T hq=> ?_)
  ·obtain ⟨j,lk,es,ck,d⟩:=s
   obtain ⟨hj,hT⟩:=hs
   simp only at hj hT
   by_cases hlt:j<ps.length
   ·obtain ⟨p,hpj⟩:∃p,ps[j]?=some p:=⟨_,getElem?_eq_getElem hlt⟩
    have hp':(ps.map aK)[j]?=some (aK p):=by rw [getElem?_map,hpj];rfl
    refine bU ac aa ai ag (J8 o lk es ck x d u r1 r2 r3 ub tl (ps.map aK) j p _) ?_
    refine bd (decide_eq_true (by rw [hlen];omega)) ⟨DR rfl rfl (Int.natCast_nonneg _) (by rw [toNat_natCast];exact hp'),?_⟩
    have h2:=hT.del p
    have e2:=HI (W:=W) hpj
    rw [←e2] at h2
    refine ⟨rfl,rfl,(j+1,_,_,_,_),⟨hlt,h2⟩,by simp only;omega,.inr ⟨mc ho hx h2 (l:= [r1,r2,r3,.cells [.ptr 2 0],.cells ub.cells]) 8 tl.length (le_refl _) rfl (hb.keep _) [.cells (aK p),.cells (aK p)],?_⟩⟩
    rw [pB hlt hp]
    simp only [na,aw,TV.ren,eS,Tok.ren,iQ (show 6<8 by decide),iQ (show 2<8 by decide)]
   ·obtain rfl:j=ps.length:=by omega
    rw [take_length] at hT
    refine bU ac aa ai ag (J8 o lk es ck x d u r1 r2 r3 ub tl (ps.map aK) ps.length (0,0) _) ?_
    exact bg (decide_eq_false (by rw [hlen];omega)) ⟨rfl,rfl,rfl,(show na sc [.ptr 6 0] 3 (ps.map aK) (ps.length:Int)=na sc [.ptr 6 0] 3 (ps.map aK) ((ps.map aK).length:Int) by rw [hlen]),d,lk,es,ck,hT,rfl⟩
  ·obtain ⟨rfl,rfl,d',lk',es',ck',h2,rfl⟩:=hq
   exact hK d' u lk' es' ck' ⟨rfl,h2⟩
 refine aj ac aa ai hL (NC o lk es ck x d u r1 r2 r3 ub tl sc [.ptr 6 0] 3 (ps.map aK) _ _ _) ?_
 refine ⟨rfl,⟨rfl,rfl,rfl,rfl,rfl,rfl⟩,λd' u' lk' es' ck' hw=> ?_⟩
 obtain ⟨rfl,h2⟩:=hw
 exact ⟨rfl,d',lk',es',ck',h2,rfl⟩
theorem Ti (ho:∀f g,o.ren f g=o)(hx:yj x tl)(hb:BxOk r1 r2 r3 ub)(hT:TbOk W lk es ck)(hxl:(jN ub).p.length≤64000000){ps:List Px}(hp:W.length+ps.length≤20000):VCx prog ae 0 mH [.vec 2 (ps.map aK) .none,.fn (.func sd) [] [.ptr 7 0,.ptr 6 0],.ptr 2 4] (cZ o lk es ck x d u [r1,r2,r3,.cells [.ptr 2 0],.cells ub.cells] tl) λy T'=>y=.tup []∧∃u' lk' es' ck',TbOk (j4 W ps (jN ub)) lk' es' ck'∧T'=cZ o lk' es' ck' x d u' [r1,r2,r3,.cells [.ptr 2 0],.cells ub.cells] tl:=by
 have hL:dy prog ae (bX [(0,S8 sd [.ptr 7 0,.ptr 6 0] 4 (ps.map aK) (λT=>T=cZ o lk es ck x d u [r1,r2,r3,.cells [.ptr 2 0],.cells ub.cells] tl) (λd' u' lk' es' ck'=>d'=d∧TbOk (j4 W ps (jN ub)) lk' es' ck'),aE prog mH 0)]):=bO λq hq=>by
  obtain rfl:=mem_singleton.1 hq
  rintro rd ro σ T D K ⟨⟨rfl,rfl,rfl,hn,hpk,rfl⟩,hK⟩
  refine cd (ad:= []) (R:=λK=>∀(d' u':Int) (lk':bF) (es':bw) (ck':Nat),(d'=d∧TbOk (j4 W ps (jN ub)) lk' es' ck')→K .normal (aI 23 pT (na sd [.ptr 7 0,.ptr 6 0] 4 (ps.map aK) (ps.map aK).length)) (yi (cZ o lk es ck x d u [r1,r2,r3,.cells [.ptr 2 0],.cells ub.cells] tl) d' u' lk' es' ck') []) (λK hK=> ?_) none 0 σ _ [] K ⟨⟨rfl,rfl,rfl,trivial,rfl,hn,hpk⟩,hK⟩
  have hlen:(ps.map aK).length=ps.length:=length_map _
  refine dM (ι:=Nat × bF × bw × Nat × Int) (f:=mH) (id:=0) (by kernel_rfl) 23 pT (λs=>ps.length-s.1) (λs=>na sd [.ptr 7 0,.ptr 6 0] 4 (ps.map aK) s.1) (λs=>cZ o s.2.1 s.2.2.1 s.2.2.2.1 x d s.2.2.2.2 [r1,r2,r3,.cells [.ptr 2 0],.cells ub.cells] tl) (λs=>s.1≤ps.length∧TbOk (j4 W (ps.take s.1) (jN ub)) s.2.1 s.2.2.1 s.2.2.2.1) 8 tl.length (λ_ _=>⟨le_refl _,le_refl _⟩)
   (λe vs T=>e=.normal∧vs=na sd [.ptr 7 0,.ptr 6 0] 4 (ps.map aK) (ps.map aK).length∧∃u' lk' es' ck',TbOk (j4 W ps (jN ub)) lk' es' ck'∧T=cZ o lk' es' ck' x d u' [r1,r2,r3,.cells [.ptr 2 0],.cells ub.cells] tl) (λs hs=> ?_) (0,lk,es,ck,u) ⟨zero_le _,hT⟩ K (λe vs T hq=> ?_)
  ·obtain ⟨j,lk,es,ck,u⟩:=s
   obtain ⟨hj,hT⟩:=hs
   simp only at hj hT
   by_cases hlt:j<ps.length
   ·obtain ⟨p,hpj⟩:∃p,ps[j]?=some p:=⟨_,getElem?_eq_getElem hlt⟩
    have hp':(ps.map aK)[j]?=some (aK p):=by rw [getElem?_map,hpj];rfl
    refine bU ac aa ai ag (J9 o lk es ck x d u r1 r2 r3 ub tl (ps.map aK) j p _) ?_
    refine bd (decide_eq_true (by rw [hlen];omega)) ⟨DR rfl rfl (Int.natCast_nonneg _) (by rw [toNat_natCast];exact hp'),?_⟩
    have hl2:=AO (ps.take j) (jN ub) W
    have hl3:(ps.take j).length=j:=by rw [length_take];omega
    have h2:=hT.put p (jN ub) (by omega) hxl rfl
    have e2:=HJ (W:=W) (a:=jN ub) hpj
    rw [←e2] at h2
    have ev:ma (jN ub)=.agg [.val (.int .i64 ub.o),.vec 1 ub.x .none,.val (.int .u32 ub.h),.val (.int .i64 ub.m),.val (.bool ub.hm)]:=by
     simp only [ma,AtV.cells,Tg hb.hu.2.2]
     rfl
    rw [ev] at h2
    refine ⟨rfl,rfl,(j+1,_,_,_,_),⟨hlt,h2⟩,by simp only;omega,.inr ⟨mc ho hx h2 (l:= [r1,r2,r3,.cells [.ptr 2 0],.cells ub.cells]) 8 tl.length (le_refl _) rfl (hb.keep _) [.cells (aK p),.cells (aK p)],?_⟩⟩
    rw [pB hlt (by omega)]
    simp only [na,aw,TV.ren,eS,Tok.ren,iQ (show 7<8 by decide),iQ (show 6<8 by decide),iQ (show 2<8 by decide)]
   ·obtain rfl:j=ps.length:=by omega
    rw [take_length] at hT
    refine bU ac aa ai ag (J9 o lk es ck x d u r1 r2 r3 ub tl (ps.map aK) ps.length (0,0) _) ?_
    exact bg (decide_eq_false (by rw [hlen];omega)) ⟨rfl,rfl,rfl,(show na sd [.ptr 7 0,.ptr 6 0] 4 (ps.map aK) (ps.length:Int)=na sd [.ptr 7 0,.ptr 6 0] 4 (ps.map aK) ((ps.map aK).length:Int) by rw [hlen]),u,lk,es,ck,hT,rfl⟩
  ·obtain ⟨rfl,rfl,u',lk',es',ck',h2,rfl⟩:=hq
   exact hK d u' lk' es' ck' ⟨rfl,h2⟩
 refine aj ac aa ai hL (NC o lk es ck x d u r1 r2 r3 ub tl sd [.ptr 7 0,.ptr 6 0] 4 (ps.map aK) _ _ _) ?_
 refine ⟨rfl,⟨rfl,rfl,rfl,rfl,rfl,rfl⟩,λd' u' lk' es' ck' hw=> ?_⟩
 obtain ⟨rfl,h2⟩:=hw
 exact ⟨rfl,u',lk',es',ck',h2,rfl⟩
end
end
set_option maxRecDepth 100000
section
open Go.RowKit Go.Maps Go.Sort
theorem yk (l:List Px):nb (l.map aK)=l:=by
 unfold nb
 rw [map_map]
 exact (map_congr_left λp _=>rfl).trans (map_id _)
def j5 (W:List bA)(ub:UpS):List bA:=j4 (gu W (nb ub.w)) (nb ub.n) (jN ub)
def kO (W:List bA)(A:List MsgS):List bA:=A.foldl (λW M=>j5 W M.u) W
def oO (A:List MsgS):Nat:=(A.map λM=>M.u.n.length).sum
theorem Kf (W:List bA)(ub:UpS):(j5 W ub).length≤W.length+ub.n.length:=by
 have h1:=AO (nb ub.n) (jN ub) (gu W (nb ub.w))
 have h2:=AN (nb ub.w) W
 have h3:(nb ub.n).length=ub.n.length:=length_map _
 unfold j5
 omega
theorem zu:∀(A:List MsgS) (W:List bA),(kO W A).length≤W.length+oO A:=by
 intro A
 induction A with
 |nil=>exact λW=>le_refl _
 |cons M A ih=>
  intro W
  have h1:=ih (j5 W M.u)
  have h2:=Kf W M.u
  show (kO (j5 W M.u) A).length≤_
  simp only [oO,map_cons,List.sum_cons] at h1 ⊢
  omega
theorem Fx (W:List bA)(A B:List MsgS):kO W (A++B)=kO (kO W A) B:=by unfold kO;rw [foldl_append]
theorem zv (A B:List MsgS):oO (A++B)=oO A+oO B:=by simp [oO]
theorem MD (A:List MsgS)(j:Nat):oO (A.take j)≤oO A:=by
 have h:=zv (A.take j) (A.drop j)
 rw [List.take_append_drop] at h
 omega
section
variable {o:VO}{lk:bF}{es:bw}{ck:Nat}{x:TV}{d u:Int}{tl:bq}{W:List bA}{r1 r2 r3:VO}{ub:UpS}
def VH (o:VO)(lk:bF)(es:bw)(ck:Nat)(x:TV)(d u:Int)(r1 r2 r3:VO)(ub:UpS)(tl:bq):VT:=cZ o lk es ck x d u [r1,r2,r3,.cells [.ptr 2 0],.cells ub.cells] tl
def VI (W1:List bA)(o:VO)(lk:bF)(es:bw)(ck:Nat)(x:TV)(d u:Int)(r1 r2 r3:VO)(ub:UpS)(tl:bq)(k:Nat)(l:Bs)(T:VT):Prop:=
 (k=3∧l=ub.w∧T=VH o lk es ck x d u r1 r2 r3 ub tl)∨(k=4∧l=ub.n∧∃lk es ck d u,TbOk W1 lk es ck∧T=VH o lk es ck x d u r1 r2 r3 ub tl)
def VJ (W1 W2:List bA)(k:Nat)(_:Bs)(_ _:Int)(lk:bF)(es:bw)(ck:Nat)(_:VT):Prop:=TbOk (bif beq k 3 then W1 else W2) lk es ck
theorem ND (h:UpWf ub):∃ws ns:List Px,(ub.w=ws.map aK∧ws.length≤64000000∧nb ub.w=ws)∧(ub.n=ns.map aK∧ns.length=ub.n.length∧nb ub.n=ns)∧(jN ub).p.length≤64000000:=by
 obtain ⟨⟨ws,hws,lws⟩,⟨ns,hns,lns⟩,l,hl,h2⟩:=h
 refine ⟨ws,ns,⟨hws,lws,by rw [hws,yk]⟩,⟨hns,by rw [hns,length_map],by rw [hns,yk]⟩,?_⟩
 simp only [jN,hl,HK];exact h2
theorem Tj (ho:∀f g,o.ren f g=o)(hx:yj x tl)(hb:BxOk r1 r2 r3 ub)(hT:TbOk W lk es ck)(hn:W.length+ub.n.length≤20000):∀ro ys T K,Nu (VI (gu W (nb ub.w)) o lk es ck x d u r1 r2 r3 ub tl) (VJ (gu W (nb ub.w)) (j5 W ub)) ro ys T K→VCx prog ae ro mH ys T K:=by
 intro ro ys T K h
 obtain ⟨ws,ns,⟨hws,lws,ew⟩,⟨hns,lns,en⟩,hxl⟩:=ND hb.hu
 have hgl:=AN (nb ub.w) W
 unfold Nu at h
 split at h
 ·rename_i l tok f caps k
  obtain ⟨⟨rfl,hf,rfl,hp⟩,hK⟩:=h
  have hf':=eq_of_beq_eq_true hf
  rcases hp with ⟨rfl,rfl,rfl⟩ | ⟨rfl,rfl,lk,es,ck,d,u,hT2,rfl⟩
  ·have hf2:f=sc:=hf'
   subst hf2
   refine VCx.loose ?_
   show VCx prog ae 0 mH [.vec 2 ub.w .none,.fn (.func sc) [] [.ptr 6 0],.ptr 2 3] _ K
   rw [hws]
   refine VCx.mono (Th ho hx hb hT lws) ?_
   rintro y T' ⟨rfl,d',lk',es',ck',h2,rfl⟩
   rw [←ew] at h2
   exact hK d' u lk' es' ck' h2
  ·have hf2:f=sd:=hf'
   subst hf2
   refine VCx.loose ?_
   show VCx prog ae 0 mH [.vec 2 ub.n .none,.fn (.func sd) [] [.ptr 7 0,.ptr 6 0],.ptr 2 4] _ K
   rw [hns]
   refine VCx.mono (Ti ho hx hb hT2 hxl (ps:=ns) (by omega)) ?_
   rintro y T' ⟨rfl,u',lk',es',ck',h2,rfl⟩
   rw [←en] at h2
   exact hK d u' lk' es' ck' h2
 ·exact h.elim
theorem Tk (ho:∀f g,o.ren f g=o)(hx:yj x tl)(hb:BxOk r1 r2 r3 ub)(hT:TbOk W lk es ck)(hn:W.length+ub.n.length≤20000)(m:Nat)(hm:tl.length≤m):VCx prog ae 0 Fs [.ptr 2 0,.agg ub.cells] (cZ o lk es ck x d u [r1,r2,r3] tl) λy T'=>y=.tup []∧∃d' u' lk' es' ck',TbOk (j5 W ub) lk' es' ck'∧T'=cZ o lk' es' ck' x d' u' [r1,r2,r3] tl:=by
 have hC:bu prog ae (aT [(mH,Nu (VI (gu W (nb ub.w)) o lk es ck x d u r1 r2 r3 ub tl) (VJ (gu W (nb ub.w)) (j5 W ub)))]):=aZ λq hq=>by
  obtain rfl:=mem_singleton.1 hq
  exact Tj ho hx hb hT hn
 refine VCx.keepQ 6 m (le_refl _) hm (aj ac aa hC ag (US o lk es ck x d u r1 r2 r3 ub tl _ _ _) ?_)
 refine ⟨⟨rfl,rfl,rfl,.inl ⟨rfl,rfl,rfl⟩⟩,λd1 u1 lk1 es1 ck1 h1=>⟨⟨rfl,rfl,rfl,.inr ⟨rfl,rfl,lk1,es1,ck1,d1,u1,h1,rfl⟩⟩,λd2 u2 lk2 es2 ck2 h2=>⟨rfl,d2,u2,lk2,es2,ck2,h2,?_⟩⟩⟩
 refine mc ho hx h2 (l:= [r1,r2,r3]) 6 m hm rfl (λv hv=> ?_) [.cells [.ptr 2 0],.cells ub.cells]
 simp only [mem_cons,not_mem_nil,or_false] at hv
 rcases hv with rfl | rfl | rfl
 ·exact hb.h1 _ _
 ·exact hb.h2 _ _
 ·exact hb.h3 _ _
end
end
end Go.Proofs.YtaijldpbpimdlaaGreatDoor