/-Part 7 of the proof of messageBackCard_holds:MbO,MbP,MbQ ... No condition. -/
import Derived.LaidHandle
import Derived.LaidMore
import Derived.Lay
import Derived.ChangeVars
import Derived.JoinedOf
import Derived.Stop.Joined
import Derived.Test.YtogbdjlelkepcaaGreatDoorTie
import Derived.Test.YtogbdjlelkepcaaGreatDoorCards
import Derived.SevenTiedAt
import Derived.Test.YtogbdjlelkepcaaGreatDoorBk1
import Derived.Test.YtogbdjlelkepcaaGreatDoorBk2
import Derived.Test.YtogbdjlelkepcaaGreatDoorBk3
import Derived.Test.YtogbdjlelkepcaaGreatDoorBk4
import Derived.Test.YtogbdjlelkepcaaGreatDoorBk5
import Derived.Test.YtogbdjlelkepcaaGreatDoorBk6
set_option maxRecDepth 100000
namespace Go.Proofs.YtogbdjlelkepcaaGreatDoor
section
open Go.RowKit

theorem RO {c d:Int} {v w:Bs} (h:Ku v w):VCx Tryz.prog ae 0 BJ [.agg [.val (.int .i64 c), .vec 1 v .none], .agg [.val (.int .i64 d), .vec 1 w .none]] ⟨[], []⟩ fun x T' =>x= .val (.bool (uu c v d w))∧T' =⟨[], []⟩:=by
 refine VCx.keepV (Q:=fun x=>x= .val (.bool (uu c v d w))) (ai ac aa (aJ fun p hp=>by obtain rfl:=List.mem_singleton.1 hp;exact HW) ah (Ty c d v w _) ?_)
 rw [ec]
 refine am (fun c1=>⟨h, ?_⟩) (fun c1=> ?_)<;>unfold uu<;>rw [c1]<;>rfl
theorem RP:∀ro ys T K,LK ro ys T K→VCx Tryz.prog ae ro BJ ys T K:=by
 intro ro ys T K hw
 unfold LK at hw
 split at hw
 ·rename_i c v tok d w tok2
  obtain ⟨h,hk⟩:=hw
  refine VCx.argsLe (xs:= [.agg [.val (.int .i64 c), .vec 1 v .none], .agg [.val (.int .i64 d), .vec 1 w .none]]) ⟨.agg ⟨.refl _, .vec _ _ _,trivial⟩, .agg ⟨.refl _, .vec _ _ _,trivial⟩,trivial⟩ ?_
  exact VCx.liftPure aq (RO h) (by simp only [ar,TV.ren,h.1.ren,h.2.ren,Tok.ren]) (fun _ _=>rfl) hk
 ·exact hw.elim
theorem NY (c d:Int × List Int):uu c.1 (bV c.2) d.1 (bV d.2)=decide (c=d):=by
 unfold uu v9
 rw [om,om,←Bool.decide_and]
 exact decide_eq_decide.2 ⟨fun h=>Prod.ext h.1 h.2,fun h=>by rw [h];exact ⟨rfl,rfl⟩⟩
theorem NZ {l m:cR} (hh:l.length=m.length→jK l∧jK m):dD Tryz.prog ae (Um (bv l) (bv m) (decide (l=m)) (aH Tryz.prog tF 0)):=bL fun p hp=>by
  obtain rfl:=List.mem_singleton.1 hp
  have hS:aZ Tryz.prog ae (aC [(BJ,LK)]):=aJ fun p hp=>by obtain rfl:=List.mem_singleton.1 hp;exact RP
  refine cA fun K hK=> ?_
  obtain ⟨hlm,hK⟩:=hK
  rw [cG,cG] at hlm
  obtain ⟨hl,hm⟩:=hh hlm
  refine dS (f:=tF) (id:=0) (by kernel_rfl) 32 Dz (fun j:Nat=>l.length-j) (fun j:Nat=>tH (bv l) (bv m) j) (fun _=>⟨[], []⟩) (fun j=>j≤l.length∧l.take j=m.take j) 0 0 (fun _ _=>⟨Nat.le_refl _,Nat.le_refl _⟩)
    (fun e vs T=>(e= .normal∧l=m∧vs=tH (bv l) (bv m) (bv l).length∧T=⟨[], []⟩)∨(e= .ret∧l≠m∧∃(z:Nat) (c d:Int) (v w:Bs),vs=tH (bv l) (bv m) z∧T=⟨[.cells [.val (.int .i64 c), .vec 1 v .none], .cells [.val (.int .i64 d), .vec 1 w .none]], []⟩)) (fun j hj=> ?_) 0 ⟨Nat.zero_le _,rfl⟩ K ?_
  · obtain ⟨hj,hall⟩:=hj
    by_cases hlt:j<l.length
    · have hlt2:j<m.length:=by omega
      have hat:(bv l)[((j:Nat):Int).toNat]?=some (wb l[j]):=by rw [Int.toNat_natCast];show (l.map _)[j]?=_;rw [List.getElem?_map,List.getElem?_eq_getElem hlt];rfl
      have hat2:(bv m)[((j:Nat):Int).toNat]?=some (wb m[j]):=by rw [Int.toNat_natCast];show (m.map _)[j]?=_;rw [List.getElem?_map,List.getElem?_eq_getElem hlt2];rfl
      refine b7 ac aa hS ah (HV (bv l) (bv m) (bV l[j].2) (bV m[j].2) l[j].1 m[j].1 j _) ?_
      refine aQ (decide_eq_true (by rw [cG];omega)) ⟨nH rfl rfl (by omega) hat,nH rfl rfl (by omega) hat2,⟨(hl.1 _ (List.getElem_mem hlt)).is,(hm.1 _ (List.getElem_mem hlt2)).is⟩, ?_⟩
      rw [NY]
      cases c1:decide (l[j]=m[j])
      · refine aQ rfl ⟨rfl,rfl, .inr ⟨rfl,fun h=> ?_,j,l[j].1,m[j].1,bV l[j].2,bV m[j].2,rfl,rfl⟩⟩
        subst h
        simp at c1
      · refine aM rfl ⟨rfl,rfl,j+1,⟨hlt, ?_⟩,by show l.length-(j+1)<l.length-j;omega, .inr ⟨rfl, ?_⟩⟩
        · rw [List.take_add_one,List.getElem?_eq_getElem hlt,List.take_add_one,List.getElem?_eq_getElem hlt2,hall,of_decide_eq_true c1]
        · rw [kz hlt hl.2]
          show ar _ _ _=tH (bv l) (bv m) (j+1:Nat)
          simp only [ar,TV.ren,iQ,Tok.ren,tH]
    · have hj2:j=l.length:=by omega
      subst hj2
      rw [List.take_length,hlm,List.take_length] at hall
      refine b7 ac aa hS ah (HV (bv l) (bv m) [] [] 0 0 l.length _) ?_
      exact aM (decide_eq_false (by rw [cG];omega)) ⟨rfl,rfl, .inl ⟨rfl,hall,by simp only [tH,cG],rfl⟩⟩
  · rintro e vs T (⟨rfl,h1,rfl,rfl⟩ | ⟨rfl,h1,z,c,d,v,w,rfl,rfl⟩)
    · have:=hK 0 0 0 [] [];rw [decide_eq_true h1] at this;exact this
    · have:=hK z c d v w;rw [decide_eq_false h1] at this;exact this
theorem RQ {l m:cR} (hh:l.length=m.length→jK l∧jK m):VCx Tryz.prog ae 0 tF [.vec 2 (bv l) .none, .vec 2 (bv m) .none, .fn (.func BJ) [] []] ⟨[], []⟩ fun x T' =>x= .val (.bool (decide (l=m)))∧T' =⟨[], []⟩:=by
  refine VCx.keepV (Q:=fun x=>x= .val (.bool (decide (l=m)))) (ai ac aa an (NZ hh) (Tz (bv l) (bv m) (decide (l=m)) _) ?_)
  rw [dy,cG,cG]
  by_cases hlm:l.length=m.length
  · refine aM (by rw [decide_eq_true (by omega)];rfl) ⟨rfl,⟨rfl,rfl,rfl,trivial,rfl,rfl,by rw [←cG l]⟩,hlm,fun _ _ _ _ _=> ?_⟩
    cases decide (l=m)<;>rfl
  · rw [decide_eq_false (show ¬l=m from fun h=>hlm (by rw [h]))]
    exact aQ (by rw [decide_eq_false (by omega)];rfl) rfl
theorem RR:∀ro ys T K,RE ro ys T K→VCx Tryz.prog ae ro tF ys T K:=by
 intro ro ys T K hw
 unfold RE at hw
 split at hw
 ·obtain ⟨⟨a,b,⟨rfl,rfl⟩,h1⟩,hk⟩:=hw
  unfold BK at hk
  rw [lf,lf] at hk
  refine VCx.argsLe (xs:= [.vec 2 (bv a) .none, .vec 2 (bv b) .none, .fn (.func BJ) [] []]) ⟨.vec _ _ _, .vec _ _ _, .refl _,trivial⟩ ?_
  exact VCx.liftPure aq (RQ h1) (by simp only [ar,TV.ren,iQ,Tok.ren]) (fun _ _=>rfl) hk
 ·exact hw.elim
theorem RS {o q:OpV} (hh:o.l.length=q.l.length→jK o.l∧jK q.l):VCx Tryz.prog ae 0 LC [.agg o.cells, .agg q.cells] ⟨[], []⟩ fun x T' =>x= .val (.bool (decide (o=q)))∧T' =⟨[], []⟩:=by
 refine VCx.keepV (Q:=fun x=>x= .val (.bool (decide (o=q)))) (ai ac aa (aJ fun p hp=>by obtain rfl:=List.mem_singleton.1 hp;exact RR) ah (TA o.n o.h o.i q.n q.h q.i (bv o.l) (bv q.l) _) ?_)
 have fin:∀b:Bool,decide (o=q)=b→(TV.val (.bool b)).ren (aw 0) (aw 0)= .val (.bool (decide (o=q))):=fun b h=>by rw [h];rfl
 have e:BK (bv o.l) (bv q.l)=decide (o.l=q.l):=by unfold BK;rw [lf,lf]
 rw [ec,ec,ec,e]
 refine am (fun c1=>am (fun c2=>am (fun c3=>⟨⟨_,_,⟨rfl,rfl⟩,hh⟩,fin _ ?_⟩) (fun c3=>fin _ ?_)) (fun c2=>fin _ ?_)) (fun c1=>fin _ ?_)
 ·have d1:=of_decide_eq_true c1
  have d2:=of_decide_eq_true c2
  have d3:=of_decide_eq_true c3
  refine decide_eq_decide.2 ⟨fun h=>by rw [h],fun h=> ?_⟩
  obtain ⟨n,hh,i,l⟩:=o
  obtain ⟨n2,h2,i2,l2⟩:=q
  simp only at d1 d2 d3 h
  rw [d1,d2,d3,h]
 ·exact decide_eq_false fun h=>of_decide_eq_false c3 (by rw [h])
 ·exact decide_eq_false fun h=>of_decide_eq_false c2 (by rw [h])
 ·exact decide_eq_false fun h=>of_decide_eq_false c1 (by rw [h])
theorem iE (l:List Int):(bV l).length=l.length:=List.length_map _
theorem RT (f:FtV):VCx Tryz.prog ae 0 LD [.agg f.cells] ⟨[], []⟩ fun x T' =>x= .val (.bool (jY f))∧T' =⟨[], []⟩:=by
 refine VCx.keepV (Q:=fun x=>x= .val (.bool (jY f))) (ai ac aa an ah (TB f.c f.s (bV f.d) _) ?_)
 have fin:∀b:Bool,jY f=b→(TV.val (.bool b)).ren (aw 0) (aw 0)= .val (.bool (jY f)):=fun b h=>by rw [h];rfl
 have un:jY f=(decide (f.c≥1)&&(decide (f.c≤255)&&(decide (f.s≥0)&&(decide (f.s≤255)&&decide (f.d.length≤4075))))):=rfl
 refine am (fun c1=>am (fun c2=>am (fun c3=>am (fun c4=>fin _ ?_) (fun c4=>fin _ ?_)) (fun c3=>fin _ ?_)) (fun c2=>fin _ ?_)) (fun c1=>fin _ ?_)
 ·rw [un,c1,c2,c3,c4,iE]
  simp only [Bool.true_and]
  exact decide_eq_decide.2 (by omega)
 ·rw [un,c1,c2,c3,c4];rfl
 ·rw [un,c1,c2,c3];rfl
 ·rw [un,c1,c2];rfl
 ·rw [un,c1];rfl
theorem RU {a b:Bs} {tok tok1 tok2:Tok} (h:Fg a b):VCx Tryz.prog ae 0 pm [.vec 1 [[.vec 1 a tok1], [.vec 1 b tok2]] tok] ⟨[], []⟩ fun x T' =>x= .vec 1 (a++b) .none∧T' =⟨[], []⟩:=by
 obtain ⟨⟨ha,hne⟩,hb,hl⟩:=h
 have hab:IsB (a++b):=IsB.append ha hb (by rw [List.length_append];omega)
 have hpos:0<a.length:=List.length_pos_iff.2 hne
 refine VCx.freezeRow hab.ren ((NF ha hb hl (by omega)).mono ?_)
 rintro x T' ⟨rfl,rfl⟩
 exact gz rfl (xq hab) (by rw [List.length_append])
theorem RV {f:FtV} (hf:byt f.d):VCx Tryz.prog ae 0 LE [.agg f.cells] ⟨[], []⟩ fun x T' =>x= .vec 1 (bif jY f then bT f.c::bT f.s::bV f.d else []) .none∧T' =⟨[], []⟩:=by
 have hS:aZ Tryz.prog ae (aC [(LD,LN (jY f)),(pm,LM)]):=aJ fun p hp=>by
  rcases List.mem_cons.1 hp with rfl | hp
  ·intro ro ys T K hw
   replace hw:LN (jY f) ro ys T K:=hw
   unfold LN at hw
   split at hw
   ·obtain ⟨⟨q,rfl,_,hq⟩,hk⟩:=hw
    rw [hq] at hk
    exact VCx.liftPure aq (RT q) (by simp only [ar,TV.ren,q.ren]) (fun _ _=>rfl) hk
   ·exact hw.elim
  ·obtain rfl:=List.mem_singleton.1 hp
   intro ro ys T K hw
   replace hw:LM ro ys T K:=hw
   unfold LM at hw
   split at hw
   ·obtain ⟨h,hk⟩:=hw
    have hab:=IsB.append h.1.1 h.2.1 (by rw [List.length_append];exact h.2.2)
    exact VCx.liftPure aq (RU h) (by simp only [ar,bg,TV.ren,h.1.1.ren,h.2.1.ren];rfl) (fun f g=>by simp only [TV.ren,hab.ren,Tok.ren]) hk
   ·exact hw.elim
 refine VCx.toLe (Q:=fun T' =>T' =⟨[], []⟩) (VCx.keepV (Q:=fun x=>TVle x (.vec 1 (bif jY f then bT f.c::bT f.s::bV f.d else []) .none)) (ai ac aa hS ah (TC f.c f.s (bV f.d) (jY f) _) ⟨⟨f,rfl,hf,rfl⟩, ?_⟩))
 cases hg:jY f
 ·exact aQ rfl (.nil 1)
 ·unfold jY at hg
  simp only [Bool.and_eq_true,decide_eq_true_eq] at hg
  obtain ⟨h1,h2,h3,h4,h5⟩:=hg
  have w:∀z:Int,0≤z→z≤255→IntKind.u8.wrap z=z:=fun z h0 h1=>by simp only [IntKind.wrap,IntKind.bits,IntKind.signed];simp;omega
  rw [w f.c (by omega) h2,w f.s h3 h4]
  have h2B:IsB [bT f.c,bT f.s]:=⟨⟨[f.c,f.s],rfl,fun z hz=>by simp at hz;rcases hz with rfl | rfl<;>omega⟩,by simp⟩
  have hC:Fg [bT f.c,bT f.s] (bV f.d):=⟨⟨h2B,by simp⟩,hf.is,by rw [iE];simp;omega⟩
  have hab:=IsB.append h2B hf.is (by rw [List.length_append];exact hC.2.2)
  refine aM rfl ⟨hC, ?_⟩
  have e:(TV.vec 1 ([[TV.val (.int .u8 f.c)], [.val (.int .u8 f.s)]]++bV f.d) .none).ren (aw 0) (aw 0)= .vec 1 ([bT f.c,bT f.s]++bV f.d) .none:=by
   simp only [TV.ren,Tok.ren]
   exact congrArg (fun z=>TV.vec 1 z .none) (hab.ren _ _)
  rw [e]
  exact .refl _
theorem RX {f g:FtV} (hf:byt f.d) (hg:byt g.d):VCx Tryz.prog ae 0 LF [.agg f.cells, .agg g.cells] ⟨[], []⟩ fun x T' =>x= .val (.bool (decide (f=g)))∧T' =⟨[], []⟩:=by
 refine VCx.keepV (Q:=fun x=>x= .val (.bool (decide (f=g)))) (ai ac aa (aJ fun p hp=>by obtain rfl:=List.mem_singleton.1 hp;exact HW) ah (TD f.c f.s g.c g.s (bV f.d) (bV g.d) _) ?_)
 have fin:∀b:Bool,decide (f=g)=b→(TV.val (.bool b)).ren (aw 0) (aw 0)= .val (.bool (decide (f=g))):=fun b h=>by rw [h];rfl
 rw [ec,ec]
 refine am (fun c1=>am (fun c2=>⟨⟨hf.is,hg.is⟩,fin _ ?_⟩) (fun c2=>fin _ ?_)) (fun c1=>fin _ ?_)
 ·have d1:=of_decide_eq_true c1
  have d2:=of_decide_eq_true c2
  unfold v9
  rw [om,om]
  refine decide_eq_decide.2 ⟨fun h=>by rw [h],fun h=> ?_⟩
  obtain ⟨c,s,d⟩:=f
  obtain ⟨c2,s2,d2⟩:=g
  simp only at d1 d2 h
  rw [d1,d2,h]
 ·exact decide_eq_false fun h=>of_decide_eq_false c2 (by rw [h])
 ·exact decide_eq_false fun h=>of_decide_eq_false c1 (by rw [h])
end
section
open Go.RowKit

def fa (f:FtV):Bs:=bif jY f then bT f.c::bT f.s::bV f.d else []
def xr (l:List TV) (v:Bs):Prop:=∃o:OpV,l=o.cells∧oI o∧v=dt o
def xt (l:List TV) (v:Bs):Prop:=∃u:UpV,l=u.cells∧iD u∧v=gm u
def xu (l:List TV) (v:Bs):Prop:=∃f:FtV,l=f.cells∧byt f.d∧v=fa f
structure MsV where
 k:Int
 op:OpV
 u:UpV
 f:FtV
deriving DecidableEq
def MsV.cells (m:MsV):List TV:= .val (.int .i64 m.k)::(m.op.cells++(m.u.cells++m.f.cells))
def lg (m:MsV):Prop:=oI m.op∧iD m.u∧byt m.f.d
def dH:Bs:=bV (List.replicate 16 255)
def BM:OpV:=⟨0,0,0, []⟩
def BN:UpV:=⟨[],yD, []⟩
def BO:FtV:=⟨0,0, []⟩
def UJ:MsV:=⟨0,BM,BN,BO⟩
def RY:List TV→MsV
 | [.val (.int _ k), .val (.int _ n), .val (.int _ h), .val (.int _ i), .vec _ l _, .vec _ w _, .val (.int _ o), .vec _ p _, .val (.int _ j), .val (.int _ m), .val (.bool b), .vec _ x _, .val (.int _ c), .val (.int _ s), .vec _ d _]=>⟨k,⟨n,h,i,l.map Dw⟩,⟨tE w,⟨o,yw p,j,m,b⟩,tE x⟩,⟨c,s,bZ d⟩⟩
 | _=>UJ
def BP (a b:MsV):Prop:=a.op.l.length=b.op.l.length→jK a.op.l∧jK b.op.l
def oJ (l m:List TV):Prop:=∃a b:MsV,l=a.cells∧m=b.cells∧(lg a∧lg b)∧BP a b
def lh (l m:List TV) (ok:Bool):Prop:=ok=decide (RY l=RY m)
def sd:List TV:= [.val (.int .i64 0), .val (.int .i64 0), .val (.int .u32 0), .vec 2 [] .none]
def qr:List TV:= [.vec 2 [] .none, .val (.int .i64 0), .vec 1 [] .none, .val (.int .u32 0), .val (.int .i64 0), .val (.bool false), .vec 2 [] .none]
def qt:List TV:= [.val (.int .i64 0), .val (.int .i64 0), .vec 1 [] .none]
def DB (v1 v2 v3:Bs):aV:=fun _ ys T K=>match ys with
 | [.ifc 173 (.agg l)]=>xr l v1∧K (.tup [.vec 1 v1 .none, .agg (.val (.int .i64 1)::(l++(qr++qt))), .val (.bool (decide ((v1.length:Int)>0)))]) T
 | [.ifc 176 (.agg l)]=>xt l v2∧K (.tup [.vec 1 v2 .none, .agg (.val (.int .i64 2)::(sd++(l++qt))), .val (.bool (decide ((v2.length:Int)>0)))]) T
 | [.ifc 179 (.agg l)]=>xu l v3∧K (.tup [.vec 1 v3 .none, .agg (.val (.int .i64 3)::(sd++(qr++l))), .val (.bool (decide ((v3.length:Int)>0)))]) T
 | [.ifc 181 (.agg [])]=>K (.tup [.val (.slice none 0 0), .agg (.val (.int .i64 4)::(sd++(qr++qt))), .val (.bool true)]) T
 | [.val .nilIface]=>K (.tup [.val (.slice none 0 0), .agg (.val (.int .i64 0)::(sd++(qr++qt))), .val (.bool false)]) T
 | _=>aN 84 default ys
def BQ:aV:=fun _ ys T K=>match ys with
 | [.agg l, .agg m]=>oJ l m∧∀ok:Bool,lh l m ok→K (.val (.bool ok)) T
 | _=>aN 84 default ys
def BS:List TV:= [.val (.int .u8 255), .val (.int .u8 255), .val (.int .u8 255), .val (.int .u8 255), .val (.int .u8 255), .val (.int .u8 255), .val (.int .u8 255), .val (.int .u8 255), .val (.int .u8 255), .val (.int .u8 255), .val (.int .u8 255), .val (.int .u8 255), .val (.int .u8 255), .val (.int .u8 255), .val (.int .u8 255), .val (.int .u8 255)]
def Kw:aV:=fun ro ys T K=>match ys with
 | [.sl i 0 16 16, .val (.int .u64 n), .val (.int .i64 k)]=>((@Eq Bool (Nat.ble ro i) true)∧(@Eq (Option VO) (T.objs[i]?) (some (.cells BS))))∧(co n k∧K (.vec 1 (dH++ap k n) .none) T)
 | _=>aN 84 default ys
def LQ:aV:=fun ro ys T K=>match ys with
 | [.sl i 0 16 16, .val (.int q n)]=>((q= .i64)∧((@Eq Bool (Nat.ble ro i) true)∧(@Eq (Option VO) (T.objs[i]?) (some (.cells BS)))))∧(co n 2∧K (.vec 1 (dH++ap 2 n) .none) T)
 | _=>aN 84 default ys
def RZ (T:VT):List TV→Option (TV × Option VT)
 | [.vec _ A _, .vec _ b _]=>some (.vec 1 (A++b) (.tail 0 (0+b.length)),some {T with tails:= [(0+b.length,1,false)]})
 | [.vec _ A _,_]=>some (.vec 1 A (.tail 0 0),some {T with tails:= [(0,1,false)]})
 | _=>none
def TG:iW:=fun o σ T=>match o.dst with
 | some d=>bif Nat.beq d 34 then RZ T σ else bif Nat.beq d 999998 then some (.dead,none) else none
 | none=>none
theorem TH (n h i:Int) (l v:Bs) (Q:TV→Prop):au Tryz.prog ae (aC [(LB,wc xr v)]) (bc [(999998, .dead,none)]) 300 aK 0 nF [.ifc 173 (.agg [.val (.int .i64 n), .val (.int .i64 h), .val (.int .u32 i), .vec 2 l .none])] ⟨[], []⟩ (fun x _=>Q x)=
 (xr [(.val (.int .i64 (n))),(.val (.int .i64 (h))),(.val (.int .u32 (i))),(.vec 2 (l) .none)] (v)∧
 (((@Eq (Option TV) (.some (.agg [(.val (.int .i64 (n))),(.val (.int .i64 (h))),(.val (.int .u32 (i))),(.vec 2 (l) .none)])) (.some (.agg [(.val (.int .i64 (n))),(.val (.int .i64 (h))),(.val (.int .u32 (i))),(.vec 2 (l) .none)])))∧
 ((@Eq (Option TV) (.some (.agg [(.val (.int .i64 (n))),(.val (.int .i64 (h))),(.val (.int .u32 (i))),(.vec 2 (l) .none)])) (.some (.agg [(.val (.int .i64 (n))),(.val (.int .i64 (h))),(.val (.int .u32 (i))),(.vec 2 (l) .none)])))∧
 True))∧
 Q (.tup [(.vec 1 (v) .none),(.agg [(.val (.int .i64 1)),(.val (.int .i64 (n))),(.val (.int .i64 (h))),(.val (.int .u32 (i))),(.vec 2 (l) .none),(.val (.slice .none 0 0)),(.val (.int .i64 0)),(.val (.slice .none 0 0)),(.val (.int .u32 0)),(.val (.int .i64 0)),(.val (.bool false)),(.val (.slice .none 0 0)),(.val (.int .i64 0)),(.val (.int .i64 0)),(.val (.slice .none 0 0))]),(.val (.bool (decide ((↑(List.length v):Int)>(0:Int)))))]))):=by kernel_rfl
theorem TI (w p n v:Bs) (o h m:Int) (hm:Bool) (Q:TV→Prop):au Tryz.prog ae (aC [(Lm,wc xt v)]) (bc [(999998, .dead,none)]) 300 aK 0 nF [.ifc 176 (.agg [.vec 2 w .none, .val (.int .i64 o), .vec 1 p .none, .val (.int .u32 h), .val (.int .i64 m), .val (.bool hm), .vec 2 n .none])] ⟨[], []⟩ (fun x _=>Q x)=
 (xt [(.vec 2 (w) .none),(.val (.int .i64 (o))),(.vec 1 (p) .none),(.val (.int .u32 (h))),(.val (.int .i64 (m))),(.val (.bool (hm))),(.vec 2 (n) .none)] (v)∧
 (((@Eq (Option TV) (.some (.agg [(.vec 2 (w) .none),(.val (.int .i64 (o))),(.vec 1 (p) .none),(.val (.int .u32 (h))),(.val (.int .i64 (m))),(.val (.bool (hm))),(.vec 2 (n) .none)])) (.some (.agg [(.vec 2 (w) .none),(.val (.int .i64 (o))),(.vec 1 (p) .none),(.val (.int .u32 (h))),(.val (.int .i64 (m))),(.val (.bool (hm))),(.vec 2 (n) .none)])))∧
 ((@Eq (Option TV) (.some (.agg [(.vec 2 (w) .none),(.val (.int .i64 (o))),(.vec 1 (p) .none),(.val (.int .u32 (h))),(.val (.int .i64 (m))),(.val (.bool (hm))),(.vec 2 (n) .none)])) (.some (.agg [(.vec 2 (w) .none),(.val (.int .i64 (o))),(.vec 1 (p) .none),(.val (.int .u32 (h))),(.val (.int .i64 (m))),(.val (.bool (hm))),(.vec 2 (n) .none)])))∧
 True))∧
 Q (.tup [(.vec 1 (v) .none),(.agg [(.val (.int .i64 2)),(.val (.int .i64 0)),(.val (.int .i64 0)),(.val (.int .u32 0)),(.val (.slice .none 0 0)),(.vec 2 (w) .none),(.val (.int .i64 (o))),(.vec 1 (p) .none),(.val (.int .u32 (h))),(.val (.int .i64 (m))),(.val (.bool (hm))),(.vec 2 (n) .none),(.val (.int .i64 0)),(.val (.int .i64 0)),(.val (.slice .none 0 0))]),(.val (.bool (decide ((↑(List.length v):Int)>(0:Int)))))]))):=by kernel_rfl
theorem R0 (c s:Int) (d v:Bs) (Q:TV→Prop):au Tryz.prog ae (aC [(LE,wc xu v)]) (bc [(999998, .dead,none)]) 300 aK 0 nF [.ifc 179 (.agg [.val (.int .i64 c), .val (.int .i64 s), .vec 1 d .none])] ⟨[], []⟩ (fun x _=>Q x)=
 (xu [(.val (.int .i64 (c))),(.val (.int .i64 (s))),(.vec 1 (d) .none)] (v)∧
 (((@Eq (Option TV) (.some (.agg [(.val (.int .i64 (c))),(.val (.int .i64 (s))),(.vec 1 (d) .none)])) (.some (.agg [(.val (.int .i64 (c))),(.val (.int .i64 (s))),(.vec 1 (d) .none)])))∧
 ((@Eq (Option TV) (.some (.agg [(.val (.int .i64 (c))),(.val (.int .i64 (s))),(.vec 1 (d) .none)])) (.some (.agg [(.val (.int .i64 (c))),(.val (.int .i64 (s))),(.vec 1 (d) .none)])))∧
 True))∧
 Q (.tup [(.vec 1 (v) .none),(.agg [(.val (.int .i64 3)),(.val (.int .i64 0)),(.val (.int .i64 0)),(.val (.int .u32 0)),(.val (.slice .none 0 0)),(.val (.slice .none 0 0)),(.val (.int .i64 0)),(.val (.slice .none 0 0)),(.val (.int .u32 0)),(.val (.int .i64 0)),(.val (.bool false)),(.val (.slice .none 0 0)),(.val (.int .i64 (c))),(.val (.int .i64 (s))),(.vec 1 (d) .none)]),(.val (.bool (decide ((↑(List.length v):Int)>(0:Int)))))]))):=by kernel_rfl
theorem TJ (Q:TV→Prop):au Tryz.prog ae br (bc [(999998, .dead,none)]) 300 aK 0 nF [.ifc 181 (.agg [])] ⟨[], []⟩ (fun x _=>Q x)=
Q (.tup [(.val (.slice .none 0 0)),(.agg [(.val (.int .i64 4)),(.val (.int .i64 0)),(.val (.int .i64 0)),(.val (.int .u32 0)),(.val (.slice .none 0 0)),(.val (.slice .none 0 0)),(.val (.int .i64 0)),(.val (.slice .none 0 0)),(.val (.int .u32 0)),(.val (.int .i64 0)),(.val (.bool false)),(.val (.slice .none 0 0)),(.val (.int .i64 0)),(.val (.int .i64 0)),(.val (.slice .none 0 0))]),(.val (.bool true))]):=by kernel_rfl
theorem TK (Q:TV→Prop):au Tryz.prog ae br (bc [(999998, .dead,none)]) 300 aK 0 nF [.val .nilIface] ⟨[], []⟩ (fun x _=>Q x)=
Q (.tup [(.val (.slice .none 0 0)),(.agg [(.val (.int .i64 0)),(.val (.int .i64 0)),(.val (.int .i64 0)),(.val (.int .u32 0)),(.val (.slice .none 0 0)),(.val (.slice .none 0 0)),(.val (.int .i64 0)),(.val (.slice .none 0 0)),(.val (.int .u32 0)),(.val (.int .i64 0)),(.val (.bool false)),(.val (.slice .none 0 0)),(.val (.int .i64 0)),(.val (.int .i64 0)),(.val (.slice .none 0 0))]),(.val (.bool false))]):=by kernel_rfl
theorem N0 (n:Int) (Q:TV→VT→Prop):au Tryz.prog ae (aC [(dN,Kw)]) aT 300 aK 0 iC [.sl 0 0 16 16, .val (.int .i64 n)] ⟨[.cells BS], []⟩ Q=
 (((@Eq (Bool) true true)∧
 (@Eq (Option VO) (.some (.cells [(.val (.int .u8 255)),(.val (.int .u8 255)),(.val (.int .u8 255)),(.val (.int .u8 255)),(.val (.int .u8 255)),(.val (.int .u8 255)),(.val (.int .u8 255)),(.val (.int .u8 255)),(.val (.int .u8 255)),(.val (.int .u8 255)),(.val (.int .u8 255)),(.val (.int .u8 255)),(.val (.int .u8 255)),(.val (.int .u8 255)),(.val (.int .u8 255)),(.val (.int .u8 255))])) (.some (.cells [(.val (.int .u8 255)),(.val (.int .u8 255)),(.val (.int .u8 255)),(.val (.int .u8 255)),(.val (.int .u8 255)),(.val (.int .u8 255)),(.val (.int .u8 255)),(.val (.int .u8 255)),(.val (.int .u8 255)),(.val (.int .u8 255)),(.val (.int .u8 255)),(.val (.int .u8 255)),(.val (.int .u8 255)),(.val (.int .u8 255)),(.val (.int .u8 255)),(.val (.int .u8 255))]))))∧
 (co (IntKind.wrap IntKind.u64 n) 2∧
 Q (.vec 1 (dH++ap (2:Int) (IntKind.wrap IntKind.u64 n)) .none) ⟨[(.cells [(.val (.int .u8 255)),(.val (.int .u8 255)),(.val (.int .u8 255)),(.val (.int .u8 255)),(.val (.int .u8 255)),(.val (.int .u8 255)),(.val (.int .u8 255)),(.val (.int .u8 255)),(.val (.int .u8 255)),(.val (.int .u8 255)),(.val (.int .u8 255)),(.val (.int .u8 255)),(.val (.int .u8 255)),(.val (.int .u8 255)),(.val (.int .u8 255)),(.val (.int .u8 255))])], []⟩)):=by kernel_rfl
theorem TL (k n h i o j m c s:Int) (b:Bool) (l w p x d v1 v2 v3:Bs) (Q:TV→Prop):au Tryz.prog ae (aC [(nF,DB v1 v2 v3),(yF,BQ)]) (bc [(999998, .dead,none)]) 300 aK 0 Ry [.agg [.val (.int .i64 k), .val (.int .i64 n), .val (.int .i64 h), .val (.int .u32 i), .vec 2 l .none, .vec 2 w .none, .val (.int .i64 o), .vec 1 p .none, .val (.int .u32 j), .val (.int .i64 m), .val (.bool b), .vec 2 x .none, .val (.int .i64 c), .val (.int .i64 s), .vec 1 d .none]] ⟨[], []⟩ (fun x _=>Q x)=
 (bif av BinOp.eql (aP (Value.int IntKind.i64 k) (Value.int IntKind.i64 (1:Int)))
 then (xr [(.val (.int .i64 (n))),(.val (.int .i64 (h))),(.val (.int .u32 (i))),(.vec 2 (l) .none)] (v1)∧
 (bif decide ((↑(List.length v1):Int)>(0:Int))
 then (oJ [(.val (.int .i64 (k))),(.val (.int .i64 (n))),(.val (.int .i64 (h))),(.val (.int .u32 (i))),(.vec 2 (l) .none),(.vec 2 (w) .none),(.val (.int .i64 (o))),(.vec 1 (p) .none),(.val (.int .u32 (j))),(.val (.int .i64 (m))),(.val (.bool (b))),(.vec 2 (x) .none),(.val (.int .i64 (c))),(.val (.int .i64 (s))),(.vec 1 (d) .none)] [(.val (.int .i64 1)),(.val (.int .i64 (n))),(.val (.int .i64 (h))),(.val (.int .u32 (i))),(.vec 2 (l) .none),(.vec 2 [] .none),(.val (.int .i64 0)),(.vec 1 [] .none),(.val (.int .u32 0)),(.val (.int .i64 0)),(.val (.bool false)),(.vec 2 [] .none),(.val (.int .i64 0)),(.val (.int .i64 0)),(.vec 1 [] .none)]∧
 (∀ok:Bool,(lh [(.val (.int .i64 (k))),(.val (.int .i64 (n))),(.val (.int .i64 (h))),(.val (.int .u32 (i))),(.vec 2 (l) .none),(.vec 2 (w) .none),(.val (.int .i64 (o))),(.vec 1 (p) .none),(.val (.int .u32 (j))),(.val (.int .i64 (m))),(.val (.bool (b))),(.vec 2 (x) .none),(.val (.int .i64 (c))),(.val (.int .i64 (s))),(.vec 1 (d) .none)] [(.val (.int .i64 1)),(.val (.int .i64 (n))),(.val (.int .i64 (h))),(.val (.int .u32 (i))),(.vec 2 (l) .none),(.vec 2 [] .none),(.val (.int .i64 0)),(.vec 1 [] .none),(.val (.int .u32 0)),(.val (.int .i64 0)),(.val (.bool false)),(.vec 2 [] .none),(.val (.int .i64 0)),(.val (.int .i64 0)),(.vec 1 [] .none)] (ok)→Q (.val (.bool (ok))))))
 else Q (.val (.bool false))))
 else (bif av BinOp.eql (aP (Value.int IntKind.i64 k) (Value.int IntKind.i64 (2:Int)))
 then (xt [(.vec 2 (w) .none),(.val (.int .i64 (o))),(.vec 1 (p) .none),(.val (.int .u32 (j))),(.val (.int .i64 (m))),(.val (.bool (b))),(.vec 2 (x) .none)] (v2)∧
 (bif decide ((↑(List.length v2):Int)>(0:Int))
 then (oJ [(.val (.int .i64 (k))),(.val (.int .i64 (n))),(.val (.int .i64 (h))),(.val (.int .u32 (i))),(.vec 2 (l) .none),(.vec 2 (w) .none),(.val (.int .i64 (o))),(.vec 1 (p) .none),(.val (.int .u32 (j))),(.val (.int .i64 (m))),(.val (.bool (b))),(.vec 2 (x) .none),(.val (.int .i64 (c))),(.val (.int .i64 (s))),(.vec 1 (d) .none)] [(.val (.int .i64 2)),(.val (.int .i64 0)),(.val (.int .i64 0)),(.val (.int .u32 0)),(.vec 2 [] .none),(.vec 2 (w) .none),(.val (.int .i64 (o))),(.vec 1 (p) .none),(.val (.int .u32 (j))),(.val (.int .i64 (m))),(.val (.bool (b))),(.vec 2 (x) .none),(.val (.int .i64 0)),(.val (.int .i64 0)),(.vec 1 [] .none)]∧
 (∀ok:Bool,(lh [(.val (.int .i64 (k))),(.val (.int .i64 (n))),(.val (.int .i64 (h))),(.val (.int .u32 (i))),(.vec 2 (l) .none),(.vec 2 (w) .none),(.val (.int .i64 (o))),(.vec 1 (p) .none),(.val (.int .u32 (j))),(.val (.int .i64 (m))),(.val (.bool (b))),(.vec 2 (x) .none),(.val (.int .i64 (c))),(.val (.int .i64 (s))),(.vec 1 (d) .none)] [(.val (.int .i64 2)),(.val (.int .i64 0)),(.val (.int .i64 0)),(.val (.int .u32 0)),(.vec 2 [] .none),(.vec 2 (w) .none),(.val (.int .i64 (o))),(.vec 1 (p) .none),(.val (.int .u32 (j))),(.val (.int .i64 (m))),(.val (.bool (b))),(.vec 2 (x) .none),(.val (.int .i64 0)),(.val (.int .i64 0)),(.vec 1 [] .none)] (ok)→Q (.val (.bool (ok))))))
 else Q (.val (.bool false))))
 else (bif av BinOp.eql (aP (Value.int IntKind.i64 k) (Value.int IntKind.i64 (3:Int)))
 then (xu [(.val (.int .i64 (c))),(.val (.int .i64 (s))),(.vec 1 (d) .none)] (v3)∧
 (bif decide ((↑(List.length v3):Int)>(0:Int))
 then (oJ [(.val (.int .i64 (k))),(.val (.int .i64 (n))),(.val (.int .i64 (h))),(.val (.int .u32 (i))),(.vec 2 (l) .none),(.vec 2 (w) .none),(.val (.int .i64 (o))),(.vec 1 (p) .none),(.val (.int .u32 (j))),(.val (.int .i64 (m))),(.val (.bool (b))),(.vec 2 (x) .none),(.val (.int .i64 (c))),(.val (.int .i64 (s))),(.vec 1 (d) .none)] [(.val (.int .i64 3)),(.val (.int .i64 0)),(.val (.int .i64 0)),(.val (.int .u32 0)),(.vec 2 [] .none),(.vec 2 [] .none),(.val (.int .i64 0)),(.vec 1 [] .none),(.val (.int .u32 0)),(.val (.int .i64 0)),(.val (.bool false)),(.vec 2 [] .none),(.val (.int .i64 (c))),(.val (.int .i64 (s))),(.vec 1 (d) .none)]∧
 (∀ok:Bool,(lh [(.val (.int .i64 (k))),(.val (.int .i64 (n))),(.val (.int .i64 (h))),(.val (.int .u32 (i))),(.vec 2 (l) .none),(.vec 2 (w) .none),(.val (.int .i64 (o))),(.vec 1 (p) .none),(.val (.int .u32 (j))),(.val (.int .i64 (m))),(.val (.bool (b))),(.vec 2 (x) .none),(.val (.int .i64 (c))),(.val (.int .i64 (s))),(.vec 1 (d) .none)] [(.val (.int .i64 3)),(.val (.int .i64 0)),(.val (.int .i64 0)),(.val (.int .u32 0)),(.vec 2 [] .none),(.vec 2 [] .none),(.val (.int .i64 0)),(.vec 1 [] .none),(.val (.int .u32 0)),(.val (.int .i64 0)),(.val (.bool false)),(.vec 2 [] .none),(.val (.int .i64 (c))),(.val (.int .i64 (s))),(.vec 1 (d) .none)] (ok)→Q (.val (.bool (ok))))))
 else Q (.val (.bool false))))
 else (bif av BinOp.eql (aP (Value.int IntKind.i64 k) (Value.int IntKind.i64 (4:Int)))
 then (oJ [(.val (.int .i64 (k))),(.val (.int .i64 (n))),(.val (.int .i64 (h))),(.val (.int .u32 (i))),(.vec 2 (l) .none),(.vec 2 (w) .none),(.val (.int .i64 (o))),(.vec 1 (p) .none),(.val (.int .u32 (j))),(.val (.int .i64 (m))),(.val (.bool (b))),(.vec 2 (x) .none),(.val (.int .i64 (c))),(.val (.int .i64 (s))),(.vec 1 (d) .none)] [(.val (.int .i64 4)),(.val (.int .i64 0)),(.val (.int .i64 0)),(.val (.int .u32 0)),(.vec 2 [] .none),(.vec 2 [] .none),(.val (.int .i64 0)),(.vec 1 [] .none),(.val (.int .u32 0)),(.val (.int .i64 0)),(.val (.bool false)),(.vec 2 [] .none),(.val (.int .i64 0)),(.val (.int .i64 0)),(.vec 1 [] .none)]∧
 (∀ok:Bool,(lh [(.val (.int .i64 (k))),(.val (.int .i64 (n))),(.val (.int .i64 (h))),(.val (.int .u32 (i))),(.vec 2 (l) .none),(.vec 2 (w) .none),(.val (.int .i64 (o))),(.vec 1 (p) .none),(.val (.int .u32 (j))),(.val (.int .i64 (m))),(.val (.bool (b))),(.vec 2 (x) .none),(.val (.int .i64 (c))),(.val (.int .i64 (s))),(.vec 1 (d) .none)] [(.val (.int .i64 4)),(.val (.int .i64 0)),(.val (.int .i64 0)),(.val (.int .u32 0)),(.vec 2 [] .none),(.vec 2 [] .none),(.val (.int .i64 0)),(.vec 1 [] .none),(.val (.int .u32 0)),(.val (.int .i64 0)),(.val (.bool false)),(.vec 2 [] .none),(.val (.int .i64 0)),(.val (.int .i64 0)),(.vec 1 [] .none)] (ok)→Q (.val (.bool (ok))))))
 else Q (.val (.bool false)))))):=by kernel_rfl
theorem TM (k n h i o j m c s:Int) (b:Bool) (l w p x d v1 v2 v3:Bs) (Q:TV→Prop):au Tryz.prog ae (aC [(nF,DB v1 v2 v3),(yF,BQ),(lX,nE .i64 1),(iC,LQ)]) TG 300 aK 0 Rz [.agg [.val (.int .i64 k), .val (.int .i64 n), .val (.int .i64 h), .val (.int .u32 i), .vec 2 l .none, .vec 2 w .none, .val (.int .i64 o), .vec 1 p .none, .val (.int .u32 j), .val (.int .i64 m), .val (.bool b), .vec 2 x .none, .val (.int .i64 c), .val (.int .i64 s), .vec 1 d .none]] ⟨[], []⟩ (fun x _=>Q x)=
 (bif av BinOp.eql (aP (Value.int IntKind.i64 k) (Value.int IntKind.i64 (1:Int)))
 then (xr [(.val (.int .i64 (n))),(.val (.int .i64 (h))),(.val (.int .u32 (i))),(.vec 2 (l) .none)] (v1)∧
 (bif !decide ((↑(List.length v1):Int)>(0:Int))
 then Q (.val (.slice .none 0 0))
 else (oJ [(.val (.int .i64 (k))),(.val (.int .i64 (n))),(.val (.int .i64 (h))),(.val (.int .u32 (i))),(.vec 2 (l) .none),(.vec 2 (w) .none),(.val (.int .i64 (o))),(.vec 1 (p) .none),(.val (.int .u32 (j))),(.val (.int .i64 (m))),(.val (.bool (b))),(.vec 2 (x) .none),(.val (.int .i64 (c))),(.val (.int .i64 (s))),(.vec 1 (d) .none)] [(.val (.int .i64 1)),(.val (.int .i64 (n))),(.val (.int .i64 (h))),(.val (.int .u32 (i))),(.vec 2 (l) .none),(.vec 2 [] .none),(.val (.int .i64 0)),(.vec 1 [] .none),(.val (.int .u32 0)),(.val (.int .i64 0)),(.val (.bool false)),(.vec 2 [] .none),(.val (.int .i64 0)),(.val (.int .i64 0)),(.vec 1 [] .none)]∧
 (∀ok:Bool,(lh [(.val (.int .i64 (k))),(.val (.int .i64 (n))),(.val (.int .i64 (h))),(.val (.int .u32 (i))),(.vec 2 (l) .none),(.vec 2 (w) .none),(.val (.int .i64 (o))),(.vec 1 (p) .none),(.val (.int .u32 (j))),(.val (.int .i64 (m))),(.val (.bool (b))),(.vec 2 (x) .none),(.val (.int .i64 (c))),(.val (.int .i64 (s))),(.vec 1 (d) .none)] [(.val (.int .i64 1)),(.val (.int .i64 (n))),(.val (.int .i64 (h))),(.val (.int .u32 (i))),(.vec 2 (l) .none),(.vec 2 [] .none),(.val (.int .i64 0)),(.vec 1 [] .none),(.val (.int .u32 0)),(.val (.int .i64 0)),(.val (.bool false)),(.vec 2 [] .none),(.val (.int .i64 0)),(.val (.int .i64 0)),(.vec 1 [] .none)] (ok)→(bif !ok
 then Q (.val (.slice .none 0 0))
 else (((@Eq (IntKind) .i64 .i64)∧
 ((@Eq (Bool) true true)∧
 (@Eq (Option VO) (.some (.cells [(.val (.int .u8 255)),(.val (.int .u8 255)),(.val (.int .u8 255)),(.val (.int .u8 255)),(.val (.int .u8 255)),(.val (.int .u8 255)),(.val (.int .u8 255)),(.val (.int .u8 255)),(.val (.int .u8 255)),(.val (.int .u8 255)),(.val (.int .u8 255)),(.val (.int .u8 255)),(.val (.int .u8 255)),(.val (.int .u8 255)),(.val (.int .u8 255)),(.val (.int .u8 255))])) (.some (.cells [(.val (.int .u8 255)),(.val (.int .u8 255)),(.val (.int .u8 255)),(.val (.int .u8 255)),(.val (.int .u8 255)),(.val (.int .u8 255)),(.val (.int .u8 255)),(.val (.int .u8 255)),(.val (.int .u8 255)),(.val (.int .u8 255)),(.val (.int .u8 255)),(.val (.int .u8 255)),(.val (.int .u8 255)),(.val (.int .u8 255)),(.val (.int .u8 255)),(.val (.int .u8 255))])))))∧
 (co (IntKind.wrap IntKind.i64 ((19:Int)+(↑(List.length v1):Int))) 2∧
 (((@Eq (Option TV) (.some (.val (.int .i64 (k)))) (.some (.val (.int .i64 (k)))))∧
 (True  ∧
 True))∧
 ((@Eq (IntKind) .i64 .i64)∧
 ((co (k) 1∧
 gH (dH++ap (2:Int) (IntKind.wrap IntKind.i64 ((19:Int)+(↑(List.length v1):Int)))))∧
 (ba Tryz.prog (fun _=> .none) 0 ⟨[(.cells [(.val (.int .i64 (k))),(.val (.int .i64 (n))),(.val (.int .i64 (h))),(.val (.int .u32 (i))),(.vec 2 (l) .none),(.vec 2 (w) .none),(.val (.int .i64 (o))),(.vec 1 (p) .none),(.val (.int .u32 (j))),(.val (.int .i64 (m))),(.val (.bool (b))),(.vec 2 (x) .none),(.val (.int .i64 (c))),(.val (.int .i64 (s))),(.vec 1 (d) .none)]),(.cells [(.val (.int .i64 (k))),(.val (.int .i64 (n))),(.val (.int .i64 (h))),(.val (.int .u32 (i))),(.vec 2 (l) .none),(.vec 2 (w) .none),(.val (.int .i64 (o))),(.vec 1 (p) .none),(.val (.int .u32 (j))),(.val (.int .i64 (m))),(.val (.bool (b))),(.vec 2 (x) .none),(.val (.int .i64 (c))),(.val (.int .i64 (s))),(.vec 1 (d) .none)]),(.cells [(.val (.int .i64 1)),(.val (.int .i64 (n))),(.val (.int .i64 (h))),(.val (.int .u32 (i))),(.vec 2 (l) .none),(.vec 2 [] .none),(.val (.int .i64 0)),(.vec 1 [] .none),(.val (.int .u32 0)),(.val (.int .i64 0)),(.val (.bool false)),(.vec 2 [] .none),(.val (.int .i64 0)),(.val (.int .i64 0)),(.vec 1 [] .none)]),(.cells [(.val (.int .u8 255)),(.val (.int .u8 255)),(.val (.int .u8 255)),(.val (.int .u8 255)),(.val (.int .u8 255)),(.val (.int .u8 255)),(.val (.int .u8 255)),(.val (.int .u8 255)),(.val (.int .u8 255)),(.val (.int .u8 255)),(.val (.int .u8 255)),(.val (.int .u8 255)),(.val (.int .u8 255)),(.val (.int .u8 255)),(.val (.int .u8 255)),(.val (.int .u8 255))]),(.cells [(.val (.int .u8 255)),(.val (.int .u8 255)),(.val (.int .u8 255)),(.val (.int .u8 255)),(.val (.int .u8 255)),(.val (.int .u8 255)),(.val (.int .u8 255)),(.val (.int .u8 255)),(.val (.int .u8 255)),(.val (.int .u8 255)),(.val (.int .u8 255)),(.val (.int .u8 255)),(.val (.int .u8 255)),(.val (.int .u8 255)),(.val (.int .u8 255)),(.val (.int .u8 255))]),(.cells [(.val (.int .u8 255)),(.val (.int .u8 255)),(.val (.int .u8 255)),(.val (.int .u8 255)),(.val (.int .u8 255)),(.val (.int .u8 255)),(.val (.int .u8 255)),(.val (.int .u8 255)),(.val (.int .u8 255)),(.val (.int .u8 255)),(.val (.int .u8 255)),(.val (.int .u8 255)),(.val (.int .u8 255)),(.val (.int .u8 255)),(.val (.int .u8 255)),(.val (.int .u8 255))])], [(0,(1,false))]⟩ (.call ⟨(.builtin .append), #[(.tmp 32),(.tmp 33)], #[22,22]⟩) [(32,(.vec 1 (dH++ap (2:Int) (IntKind.wrap IntKind.i64 ((19:Int)+(↑(List.length v1):Int)))++ap (1:Int) k) (.tail 0 0))),(33,(.vec 1 (v1) .none))] (.vec 1 (dH++ap (2:Int) (IntKind.wrap IntKind.i64 ((19:Int)+(↑(List.length v1):Int)))++ap (1:Int) k++v1) (.tail 0 ((0:Nat)+List.length v1))) ⟨[(.cells [(.val (.int .i64 (k))),(.val (.int .i64 (n))),(.val (.int .i64 (h))),(.val (.int .u32 (i))),(.vec 2 (l) .none),(.vec 2 (w) .none),(.val (.int .i64 (o))),(.vec 1 (p) .none),(.val (.int .u32 (j))),(.val (.int .i64 (m))),(.val (.bool (b))),(.vec 2 (x) .none),(.val (.int .i64 (c))),(.val (.int .i64 (s))),(.vec 1 (d) .none)]),(.cells [(.val (.int .i64 (k))),(.val (.int .i64 (n))),(.val (.int .i64 (h))),(.val (.int .u32 (i))),(.vec 2 (l) .none),(.vec 2 (w) .none),(.val (.int .i64 (o))),(.vec 1 (p) .none),(.val (.int .u32 (j))),(.val (.int .i64 (m))),(.val (.bool (b))),(.vec 2 (x) .none),(.val (.int .i64 (c))),(.val (.int .i64 (s))),(.vec 1 (d) .none)]),(.cells [(.val (.int .i64 1)),(.val (.int .i64 (n))),(.val (.int .i64 (h))),(.val (.int .u32 (i))),(.vec 2 (l) .none),(.vec 2 [] .none),(.val (.int .i64 0)),(.vec 1 [] .none),(.val (.int .u32 0)),(.val (.int .i64 0)),(.val (.bool false)),(.vec 2 [] .none),(.val (.int .i64 0)),(.val (.int .i64 0)),(.vec 1 [] .none)]),(.cells [(.val (.int .u8 255)),(.val (.int .u8 255)),(.val (.int .u8 255)),(.val (.int .u8 255)),(.val (.int .u8 255)),(.val (.int .u8 255)),(.val (.int .u8 255)),(.val (.int .u8 255)),(.val (.int .u8 255)),(.val (.int .u8 255)),(.val (.int .u8 255)),(.val (.int .u8 255)),(.val (.int .u8 255)),(.val (.int .u8 255)),(.val (.int .u8 255)),(.val (.int .u8 255))]),(.cells [(.val (.int .u8 255)),(.val (.int .u8 255)),(.val (.int .u8 255)),(.val (.int .u8 255)),(.val (.int .u8 255)),(.val (.int .u8 255)),(.val (.int .u8 255)),(.val (.int .u8 255)),(.val (.int .u8 255)),(.val (.int .u8 255)),(.val (.int .u8 255)),(.val (.int .u8 255)),(.val (.int .u8 255)),(.val (.int .u8 255)),(.val (.int .u8 255)),(.val (.int .u8 255))]),(.cells [(.val (.int .u8 255)),(.val (.int .u8 255)),(.val (.int .u8 255)),(.val (.int .u8 255)),(.val (.int .u8 255)),(.val (.int .u8 255)),(.val (.int .u8 255)),(.val (.int .u8 255)),(.val (.int .u8 255)),(.val (.int .u8 255)),(.val (.int .u8 255)),(.val (.int .u8 255)),(.val (.int .u8 255)),(.val (.int .u8 255)),(.val (.int .u8 255)),(.val (.int .u8 255))])], [(((0:Nat)+List.length v1),(1,false))]⟩∧
 Q (.vec 1 (dH++ap (2:Int) (IntKind.wrap IntKind.i64 ((19:Int)+(↑(List.length v1):Int)))++ap (1:Int) k++v1) (.tail 0 ((0:Nat)+List.length v1)))))))))))))))
 else (bif av BinOp.eql (aP (Value.int IntKind.i64 k) (Value.int IntKind.i64 (2:Int)))
 then (xt [(.vec 2 (w) .none),(.val (.int .i64 (o))),(.vec 1 (p) .none),(.val (.int .u32 (j))),(.val (.int .i64 (m))),(.val (.bool (b))),(.vec 2 (x) .none)] (v2)∧
 (bif !decide ((↑(List.length v2):Int)>(0:Int))
 then Q (.val (.slice .none 0 0))
 else (oJ [(.val (.int .i64 (k))),(.val (.int .i64 (n))),(.val (.int .i64 (h))),(.val (.int .u32 (i))),(.vec 2 (l) .none),(.vec 2 (w) .none),(.val (.int .i64 (o))),(.vec 1 (p) .none),(.val (.int .u32 (j))),(.val (.int .i64 (m))),(.val (.bool (b))),(.vec 2 (x) .none),(.val (.int .i64 (c))),(.val (.int .i64 (s))),(.vec 1 (d) .none)] [(.val (.int .i64 2)),(.val (.int .i64 0)),(.val (.int .i64 0)),(.val (.int .u32 0)),(.vec 2 [] .none),(.vec 2 (w) .none),(.val (.int .i64 (o))),(.vec 1 (p) .none),(.val (.int .u32 (j))),(.val (.int .i64 (m))),(.val (.bool (b))),(.vec 2 (x) .none),(.val (.int .i64 0)),(.val (.int .i64 0)),(.vec 1 [] .none)]∧
 (∀ok:Bool,(lh [(.val (.int .i64 (k))),(.val (.int .i64 (n))),(.val (.int .i64 (h))),(.val (.int .u32 (i))),(.vec 2 (l) .none),(.vec 2 (w) .none),(.val (.int .i64 (o))),(.vec 1 (p) .none),(.val (.int .u32 (j))),(.val (.int .i64 (m))),(.val (.bool (b))),(.vec 2 (x) .none),(.val (.int .i64 (c))),(.val (.int .i64 (s))),(.vec 1 (d) .none)] [(.val (.int .i64 2)),(.val (.int .i64 0)),(.val (.int .i64 0)),(.val (.int .u32 0)),(.vec 2 [] .none),(.vec 2 (w) .none),(.val (.int .i64 (o))),(.vec 1 (p) .none),(.val (.int .u32 (j))),(.val (.int .i64 (m))),(.val (.bool (b))),(.vec 2 (x) .none),(.val (.int .i64 0)),(.val (.int .i64 0)),(.vec 1 [] .none)] (ok)→(bif !ok
 then Q (.val (.slice .none 0 0))
 else (((@Eq (IntKind) .i64 .i64)∧
 ((@Eq (Bool) true true)∧
 (@Eq (Option VO) (.some (.cells [(.val (.int .u8 255)),(.val (.int .u8 255)),(.val (.int .u8 255)),(.val (.int .u8 255)),(.val (.int .u8 255)),(.val (.int .u8 255)),(.val (.int .u8 255)),(.val (.int .u8 255)),(.val (.int .u8 255)),(.val (.int .u8 255)),(.val (.int .u8 255)),(.val (.int .u8 255)),(.val (.int .u8 255)),(.val (.int .u8 255)),(.val (.int .u8 255)),(.val (.int .u8 255))])) (.some (.cells [(.val (.int .u8 255)),(.val (.int .u8 255)),(.val (.int .u8 255)),(.val (.int .u8 255)),(.val (.int .u8 255)),(.val (.int .u8 255)),(.val (.int .u8 255)),(.val (.int .u8 255)),(.val (.int .u8 255)),(.val (.int .u8 255)),(.val (.int .u8 255)),(.val (.int .u8 255)),(.val (.int .u8 255)),(.val (.int .u8 255)),(.val (.int .u8 255)),(.val (.int .u8 255))])))))∧
 (co (IntKind.wrap IntKind.i64 ((19:Int)+(↑(List.length v2):Int))) 2∧
 (((@Eq (Option TV) (.some (.val (.int .i64 (k)))) (.some (.val (.int .i64 (k)))))∧
 (True  ∧
 True))∧
 ((@Eq (IntKind) .i64 .i64)∧
 ((co (k) 1∧
 gH (dH++ap (2:Int) (IntKind.wrap IntKind.i64 ((19:Int)+(↑(List.length v2):Int)))))∧
 (ba Tryz.prog (fun _=> .none) 0 ⟨[(.cells [(.val (.int .i64 (k))),(.val (.int .i64 (n))),(.val (.int .i64 (h))),(.val (.int .u32 (i))),(.vec 2 (l) .none),(.vec 2 (w) .none),(.val (.int .i64 (o))),(.vec 1 (p) .none),(.val (.int .u32 (j))),(.val (.int .i64 (m))),(.val (.bool (b))),(.vec 2 (x) .none),(.val (.int .i64 (c))),(.val (.int .i64 (s))),(.vec 1 (d) .none)]),(.cells [(.val (.int .i64 (k))),(.val (.int .i64 (n))),(.val (.int .i64 (h))),(.val (.int .u32 (i))),(.vec 2 (l) .none),(.vec 2 (w) .none),(.val (.int .i64 (o))),(.vec 1 (p) .none),(.val (.int .u32 (j))),(.val (.int .i64 (m))),(.val (.bool (b))),(.vec 2 (x) .none),(.val (.int .i64 (c))),(.val (.int .i64 (s))),(.vec 1 (d) .none)]),(.cells [(.val (.int .i64 2)),(.val (.int .i64 0)),(.val (.int .i64 0)),(.val (.int .u32 0)),(.vec 2 [] .none),(.vec 2 (w) .none),(.val (.int .i64 (o))),(.vec 1 (p) .none),(.val (.int .u32 (j))),(.val (.int .i64 (m))),(.val (.bool (b))),(.vec 2 (x) .none),(.val (.int .i64 0)),(.val (.int .i64 0)),(.vec 1 [] .none)]),(.cells [(.val (.int .u8 255)),(.val (.int .u8 255)),(.val (.int .u8 255)),(.val (.int .u8 255)),(.val (.int .u8 255)),(.val (.int .u8 255)),(.val (.int .u8 255)),(.val (.int .u8 255)),(.val (.int .u8 255)),(.val (.int .u8 255)),(.val (.int .u8 255)),(.val (.int .u8 255)),(.val (.int .u8 255)),(.val (.int .u8 255)),(.val (.int .u8 255)),(.val (.int .u8 255))]),(.cells [(.val (.int .u8 255)),(.val (.int .u8 255)),(.val (.int .u8 255)),(.val (.int .u8 255)),(.val (.int .u8 255)),(.val (.int .u8 255)),(.val (.int .u8 255)),(.val (.int .u8 255)),(.val (.int .u8 255)),(.val (.int .u8 255)),(.val (.int .u8 255)),(.val (.int .u8 255)),(.val (.int .u8 255)),(.val (.int .u8 255)),(.val (.int .u8 255)),(.val (.int .u8 255))]),(.cells [(.val (.int .u8 255)),(.val (.int .u8 255)),(.val (.int .u8 255)),(.val (.int .u8 255)),(.val (.int .u8 255)),(.val (.int .u8 255)),(.val (.int .u8 255)),(.val (.int .u8 255)),(.val (.int .u8 255)),(.val (.int .u8 255)),(.val (.int .u8 255)),(.val (.int .u8 255)),(.val (.int .u8 255)),(.val (.int .u8 255)),(.val (.int .u8 255)),(.val (.int .u8 255))])], [(0,(1,false))]⟩ (.call ⟨(.builtin .append), #[(.tmp 32),(.tmp 33)], #[22,22]⟩) [(32,(.vec 1 (dH++ap (2:Int) (IntKind.wrap IntKind.i64 ((19:Int)+(↑(List.length v2):Int)))++ap (1:Int) k) (.tail 0 0))),(33,(.vec 1 (v2) .none))] (.vec 1 (dH++ap (2:Int) (IntKind.wrap IntKind.i64 ((19:Int)+(↑(List.length v2):Int)))++ap (1:Int) k++v2) (.tail 0 ((0:Nat)+List.length v2))) ⟨[(.cells [(.val (.int .i64 (k))),(.val (.int .i64 (n))),(.val (.int .i64 (h))),(.val (.int .u32 (i))),(.vec 2 (l) .none),(.vec 2 (w) .none),(.val (.int .i64 (o))),(.vec 1 (p) .none),(.val (.int .u32 (j))),(.val (.int .i64 (m))),(.val (.bool (b))),(.vec 2 (x) .none),(.val (.int .i64 (c))),(.val (.int .i64 (s))),(.vec 1 (d) .none)]),(.cells [(.val (.int .i64 (k))),(.val (.int .i64 (n))),(.val (.int .i64 (h))),(.val (.int .u32 (i))),(.vec 2 (l) .none),(.vec 2 (w) .none),(.val (.int .i64 (o))),(.vec 1 (p) .none),(.val (.int .u32 (j))),(.val (.int .i64 (m))),(.val (.bool (b))),(.vec 2 (x) .none),(.val (.int .i64 (c))),(.val (.int .i64 (s))),(.vec 1 (d) .none)]),(.cells [(.val (.int .i64 2)),(.val (.int .i64 0)),(.val (.int .i64 0)),(.val (.int .u32 0)),(.vec 2 [] .none),(.vec 2 (w) .none),(.val (.int .i64 (o))),(.vec 1 (p) .none),(.val (.int .u32 (j))),(.val (.int .i64 (m))),(.val (.bool (b))),(.vec 2 (x) .none),(.val (.int .i64 0)),(.val (.int .i64 0)),(.vec 1 [] .none)]),(.cells [(.val (.int .u8 255)),(.val (.int .u8 255)),(.val (.int .u8 255)),(.val (.int .u8 255)),(.val (.int .u8 255)),(.val (.int .u8 255)),(.val (.int .u8 255)),(.val (.int .u8 255)),(.val (.int .u8 255)),(.val (.int .u8 255)),(.val (.int .u8 255)),(.val (.int .u8 255)),(.val (.int .u8 255)),(.val (.int .u8 255)),(.val (.int .u8 255)),(.val (.int .u8 255))]),(.cells [(.val (.int .u8 255)),(.val (.int .u8 255)),(.val (.int .u8 255)),(.val (.int .u8 255)),(.val (.int .u8 255)),(.val (.int .u8 255)),(.val (.int .u8 255)),(.val (.int .u8 255)),(.val (.int .u8 255)),(.val (.int .u8 255)),(.val (.int .u8 255)),(.val (.int .u8 255)),(.val (.int .u8 255)),(.val (.int .u8 255)),(.val (.int .u8 255)),(.val (.int .u8 255))]),(.cells [(.val (.int .u8 255)),(.val (.int .u8 255)),(.val (.int .u8 255)),(.val (.int .u8 255)),(.val (.int .u8 255)),(.val (.int .u8 255)),(.val (.int .u8 255)),(.val (.int .u8 255)),(.val (.int .u8 255)),(.val (.int .u8 255)),(.val (.int .u8 255)),(.val (.int .u8 255)),(.val (.int .u8 255)),(.val (.int .u8 255)),(.val (.int .u8 255)),(.val (.int .u8 255))])], [(((0:Nat)+List.length v2),(1,false))]⟩∧
 Q (.vec 1 (dH++ap (2:Int) (IntKind.wrap IntKind.i64 ((19:Int)+(↑(List.length v2):Int)))++ap (1:Int) k++v2) (.tail 0 ((0:Nat)+List.length v2)))))))))))))))
 else (bif av BinOp.eql (aP (Value.int IntKind.i64 k) (Value.int IntKind.i64 (3:Int)))
 then (xu [(.val (.int .i64 (c))),(.val (.int .i64 (s))),(.vec 1 (d) .none)] (v3)∧
 (bif !decide ((↑(List.length v3):Int)>(0:Int))
 then Q (.val (.slice .none 0 0))
 else (oJ [(.val (.int .i64 (k))),(.val (.int .i64 (n))),(.val (.int .i64 (h))),(.val (.int .u32 (i))),(.vec 2 (l) .none),(.vec 2 (w) .none),(.val (.int .i64 (o))),(.vec 1 (p) .none),(.val (.int .u32 (j))),(.val (.int .i64 (m))),(.val (.bool (b))),(.vec 2 (x) .none),(.val (.int .i64 (c))),(.val (.int .i64 (s))),(.vec 1 (d) .none)] [(.val (.int .i64 3)),(.val (.int .i64 0)),(.val (.int .i64 0)),(.val (.int .u32 0)),(.vec 2 [] .none),(.vec 2 [] .none),(.val (.int .i64 0)),(.vec 1 [] .none),(.val (.int .u32 0)),(.val (.int .i64 0)),(.val (.bool false)),(.vec 2 [] .none),(.val (.int .i64 (c))),(.val (.int .i64 (s))),(.vec 1 (d) .none)]∧
 (∀ok:Bool,(lh [(.val (.int .i64 (k))),(.val (.int .i64 (n))),(.val (.int .i64 (h))),(.val (.int .u32 (i))),(.vec 2 (l) .none),(.vec 2 (w) .none),(.val (.int .i64 (o))),(.vec 1 (p) .none),(.val (.int .u32 (j))),(.val (.int .i64 (m))),(.val (.bool (b))),(.vec 2 (x) .none),(.val (.int .i64 (c))),(.val (.int .i64 (s))),(.vec 1 (d) .none)] [(.val (.int .i64 3)),(.val (.int .i64 0)),(.val (.int .i64 0)),(.val (.int .u32 0)),(.vec 2 [] .none),(.vec 2 [] .none),(.val (.int .i64 0)),(.vec 1 [] .none),(.val (.int .u32 0)),(.val (.int .i64 0)),(.val (.bool false)),(.vec 2 [] .none),(.val (.int .i64 (c))),(.val (.int .i64 (s))),(.vec 1 (d) .none)] (ok)→(bif !ok
 then Q (.val (.slice .none 0 0))
 else (((@Eq (IntKind) .i64 .i64)∧
 ((@Eq (Bool) true true)∧
 (@Eq (Option VO) (.some (.cells [(.val (.int .u8 255)),(.val (.int .u8 255)),(.val (.int .u8 255)),(.val (.int .u8 255)),(.val (.int .u8 255)),(.val (.int .u8 255)),(.val (.int .u8 255)),(.val (.int .u8 255)),(.val (.int .u8 255)),(.val (.int .u8 255)),(.val (.int .u8 255)),(.val (.int .u8 255)),(.val (.int .u8 255)),(.val (.int .u8 255)),(.val (.int .u8 255)),(.val (.int .u8 255))])) (.some (.cells [(.val (.int .u8 255)),(.val (.int .u8 255)),(.val (.int .u8 255)),(.val (.int .u8 255)),(.val (.int .u8 255)),(.val (.int .u8 255)),(.val (.int .u8 255)),(.val (.int .u8 255)),(.val (.int .u8 255)),(.val (.int .u8 255)),(.val (.int .u8 255)),(.val (.int .u8 255)),(.val (.int .u8 255)),(.val (.int .u8 255)),(.val (.int .u8 255)),(.val (.int .u8 255))])))))∧
 (co (IntKind.wrap IntKind.i64 ((19:Int)+(↑(List.length v3):Int))) 2∧
 (((@Eq (Option TV) (.some (.val (.int .i64 (k)))) (.some (.val (.int .i64 (k)))))∧
 (True  ∧
 True))∧
 ((@Eq (IntKind) .i64 .i64)∧
 ((co (k) 1∧
 gH (dH++ap (2:Int) (IntKind.wrap IntKind.i64 ((19:Int)+(↑(List.length v3):Int)))))∧
 (ba Tryz.prog (fun _=> .none) 0 ⟨[(.cells [(.val (.int .i64 (k))),(.val (.int .i64 (n))),(.val (.int .i64 (h))),(.val (.int .u32 (i))),(.vec 2 (l) .none),(.vec 2 (w) .none),(.val (.int .i64 (o))),(.vec 1 (p) .none),(.val (.int .u32 (j))),(.val (.int .i64 (m))),(.val (.bool (b))),(.vec 2 (x) .none),(.val (.int .i64 (c))),(.val (.int .i64 (s))),(.vec 1 (d) .none)]),(.cells [(.val (.int .i64 (k))),(.val (.int .i64 (n))),(.val (.int .i64 (h))),(.val (.int .u32 (i))),(.vec 2 (l) .none),(.vec 2 (w) .none),(.val (.int .i64 (o))),(.vec 1 (p) .none),(.val (.int .u32 (j))),(.val (.int .i64 (m))),(.val (.bool (b))),(.vec 2 (x) .none),(.val (.int .i64 (c))),(.val (.int .i64 (s))),(.vec 1 (d) .none)]),(.cells [(.val (.int .i64 3)),(.val (.int .i64 0)),(.val (.int .i64 0)),(.val (.int .u32 0)),(.vec 2 [] .none),(.vec 2 [] .none),(.val (.int .i64 0)),(.vec 1 [] .none),(.val (.int .u32 0)),(.val (.int .i64 0)),(.val (.bool false)),(.vec 2 [] .none),(.val (.int .i64 (c))),(.val (.int .i64 (s))),(.vec 1 (d) .none)]),(.cells [(.val (.int .u8 255)),(.val (.int .u8 255)),(.val (.int .u8 255)),(.val (.int .u8 255)),(.val (.int .u8 255)),(.val (.int .u8 255)),(.val (.int .u8 255)),(.val (.int .u8 255)),(.val (.int .u8 255)),(.val (.int .u8 255)),(.val (.int .u8 255)),(.val (.int .u8 255)),(.val (.int .u8 255)),(.val (.int .u8 255)),(.val (.int .u8 255)),(.val (.int .u8 255))]),(.cells [(.val (.int .u8 255)),(.val (.int .u8 255)),(.val (.int .u8 255)),(.val (.int .u8 255)),(.val (.int .u8 255)),(.val (.int .u8 255)),(.val (.int .u8 255)),(.val (.int .u8 255)),(.val (.int .u8 255)),(.val (.int .u8 255)),(.val (.int .u8 255)),(.val (.int .u8 255)),(.val (.int .u8 255)),(.val (.int .u8 255)),(.val (.int .u8 255)),(.val (.int .u8 255))]),(.cells [(.val (.int .u8 255)),(.val (.int .u8 255)),(.val (.int .u8 255)),(.val (.int .u8 255)),(.val (.int .u8 255)),(.val (.int .u8 255)),(.val (.int .u8 255)),(.val (.int .u8 255)),(.val (.int .u8 255)),(.val (.int .u8 255)),(.val (.int .u8 255)),(.val (.int .u8 255)),(.val (.int .u8 255)),(.val (.int .u8 255)),(.val (.int .u8 255)),(.val (.int .u8 255))])], [(0,(1,false))]⟩ (.call ⟨(.builtin .append), #[(.tmp 32),(.tmp 33)], #[22,22]⟩) [(32,(.vec 1 (dH++ap (2:Int) (IntKind.wrap IntKind.i64 ((19:Int)+(↑(List.length v3):Int)))++ap (1:Int) k) (.tail 0 0))),(33,(.vec 1 (v3) .none))] (.vec 1 (dH++ap (2:Int) (IntKind.wrap IntKind.i64 ((19:Int)+(↑(List.length v3):Int)))++ap (1:Int) k++v3) (.tail 0 ((0:Nat)+List.length v3))) ⟨[(.cells [(.val (.int .i64 (k))),(.val (.int .i64 (n))),(.val (.int .i64 (h))),(.val (.int .u32 (i))),(.vec 2 (l) .none),(.vec 2 (w) .none),(.val (.int .i64 (o))),(.vec 1 (p) .none),(.val (.int .u32 (j))),(.val (.int .i64 (m))),(.val (.bool (b))),(.vec 2 (x) .none),(.val (.int .i64 (c))),(.val (.int .i64 (s))),(.vec 1 (d) .none)]),(.cells [(.val (.int .i64 (k))),(.val (.int .i64 (n))),(.val (.int .i64 (h))),(.val (.int .u32 (i))),(.vec 2 (l) .none),(.vec 2 (w) .none),(.val (.int .i64 (o))),(.vec 1 (p) .none),(.val (.int .u32 (j))),(.val (.int .i64 (m))),(.val (.bool (b))),(.vec 2 (x) .none),(.val (.int .i64 (c))),(.val (.int .i64 (s))),(.vec 1 (d) .none)]),(.cells [(.val (.int .i64 3)),(.val (.int .i64 0)),(.val (.int .i64 0)),(.val (.int .u32 0)),(.vec 2 [] .none),(.vec 2 [] .none),(.val (.int .i64 0)),(.vec 1 [] .none),(.val (.int .u32 0)),(.val (.int .i64 0)),(.val (.bool false)),(.vec 2 [] .none),(.val (.int .i64 (c))),(.val (.int .i64 (s))),(.vec 1 (d) .none)]),(.cells [(.val (.int .u8 255)),(.val (.int .u8 255)),(.val (.int .u8 255)),(.val (.int .u8 255)),(.val (.int .u8 255)),(.val (.int .u8 255)),(.val (.int .u8 255)),(.val (.int .u8 255)),(.val (.int .u8 255)),(.val (.int .u8 255)),(.val (.int .u8 255)),(.val (.int .u8 255)),(.val (.int .u8 255)),(.val (.int .u8 255)),(.val (.int .u8 255)),(.val (.int .u8 255))]),(.cells [(.val (.int .u8 255)),(.val (.int .u8 255)),(.val (.int .u8 255)),(.val (.int .u8 255)),(.val (.int .u8 255)),(.val (.int .u8 255)),(.val (.int .u8 255)),(.val (.int .u8 255)),(.val (.int .u8 255)),(.val (.int .u8 255)),(.val (.int .u8 255)),(.val (.int .u8 255)),(.val (.int .u8 255)),(.val (.int .u8 255)),(.val (.int .u8 255)),(.val (.int .u8 255))]),(.cells [(.val (.int .u8 255)),(.val (.int .u8 255)),(.val (.int .u8 255)),(.val (.int .u8 255)),(.val (.int .u8 255)),(.val (.int .u8 255)),(.val (.int .u8 255)),(.val (.int .u8 255)),(.val (.int .u8 255)),(.val (.int .u8 255)),(.val (.int .u8 255)),(.val (.int .u8 255)),(.val (.int .u8 255)),(.val (.int .u8 255)),(.val (.int .u8 255)),(.val (.int .u8 255))])], [(((0:Nat)+List.length v3),(1,false))]⟩∧
 Q (.vec 1 (dH++ap (2:Int) (IntKind.wrap IntKind.i64 ((19:Int)+(↑(List.length v3):Int)))++ap (1:Int) k++v3) (.tail 0 ((0:Nat)+List.length v3)))))))))))))))
 else (bif av BinOp.eql (aP (Value.int IntKind.i64 k) (Value.int IntKind.i64 (4:Int)))
 then (oJ [(.val (.int .i64 (k))),(.val (.int .i64 (n))),(.val (.int .i64 (h))),(.val (.int .u32 (i))),(.vec 2 (l) .none),(.vec 2 (w) .none),(.val (.int .i64 (o))),(.vec 1 (p) .none),(.val (.int .u32 (j))),(.val (.int .i64 (m))),(.val (.bool (b))),(.vec 2 (x) .none),(.val (.int .i64 (c))),(.val (.int .i64 (s))),(.vec 1 (d) .none)] [(.val (.int .i64 4)),(.val (.int .i64 0)),(.val (.int .i64 0)),(.val (.int .u32 0)),(.vec 2 [] .none),(.vec 2 [] .none),(.val (.int .i64 0)),(.vec 1 [] .none),(.val (.int .u32 0)),(.val (.int .i64 0)),(.val (.bool false)),(.vec 2 [] .none),(.val (.int .i64 0)),(.val (.int .i64 0)),(.vec 1 [] .none)]∧
 (∀ok:Bool,(lh [(.val (.int .i64 (k))),(.val (.int .i64 (n))),(.val (.int .i64 (h))),(.val (.int .u32 (i))),(.vec 2 (l) .none),(.vec 2 (w) .none),(.val (.int .i64 (o))),(.vec 1 (p) .none),(.val (.int .u32 (j))),(.val (.int .i64 (m))),(.val (.bool (b))),(.vec 2 (x) .none),(.val (.int .i64 (c))),(.val (.int .i64 (s))),(.vec 1 (d) .none)] [(.val (.int .i64 4)),(.val (.int .i64 0)),(.val (.int .i64 0)),(.val (.int .u32 0)),(.vec 2 [] .none),(.vec 2 [] .none),(.val (.int .i64 0)),(.vec 1 [] .none),(.val (.int .u32 0)),(.val (.int .i64 0)),(.val (.bool false)),(.vec 2 [] .none),(.val (.int .i64 0)),(.val (.int .i64 0)),(.vec 1 [] .none)] (ok)→(bif !ok
 then Q (.val (.slice .none 0 0))
 else (((@Eq (IntKind) .i64 .i64)∧
 ((@Eq (Bool) true true)∧
 (@Eq (Option VO) (.some (.cells [(.val (.int .u8 255)),(.val (.int .u8 255)),(.val (.int .u8 255)),(.val (.int .u8 255)),(.val (.int .u8 255)),(.val (.int .u8 255)),(.val (.int .u8 255)),(.val (.int .u8 255)),(.val (.int .u8 255)),(.val (.int .u8 255)),(.val (.int .u8 255)),(.val (.int .u8 255)),(.val (.int .u8 255)),(.val (.int .u8 255)),(.val (.int .u8 255)),(.val (.int .u8 255))])) (.some (.cells [(.val (.int .u8 255)),(.val (.int .u8 255)),(.val (.int .u8 255)),(.val (.int .u8 255)),(.val (.int .u8 255)),(.val (.int .u8 255)),(.val (.int .u8 255)),(.val (.int .u8 255)),(.val (.int .u8 255)),(.val (.int .u8 255)),(.val (.int .u8 255)),(.val (.int .u8 255)),(.val (.int .u8 255)),(.val (.int .u8 255)),(.val (.int .u8 255)),(.val (.int .u8 255))])))))∧
 (co 19 2∧
 (((@Eq (Option TV) (.some (.val (.int .i64 (k)))) (.some (.val (.int .i64 (k)))))∧
 (True  ∧
 True))∧
 ((@Eq (IntKind) .i64 .i64)∧
 ((co (k) 1∧
 gH (dH++ap (2:Int) (IntKind.wrap IntKind.i64 ((19:Int)+(↑(0:Nat):Int)))))∧
 (ba Tryz.prog (fun _=> .none) 0 ⟨[(.cells [(.val (.int .i64 (k))),(.val (.int .i64 (n))),(.val (.int .i64 (h))),(.val (.int .u32 (i))),(.vec 2 (l) .none),(.vec 2 (w) .none),(.val (.int .i64 (o))),(.vec 1 (p) .none),(.val (.int .u32 (j))),(.val (.int .i64 (m))),(.val (.bool (b))),(.vec 2 (x) .none),(.val (.int .i64 (c))),(.val (.int .i64 (s))),(.vec 1 (d) .none)]),(.cells [(.val (.int .i64 (k))),(.val (.int .i64 (n))),(.val (.int .i64 (h))),(.val (.int .u32 (i))),(.vec 2 (l) .none),(.vec 2 (w) .none),(.val (.int .i64 (o))),(.vec 1 (p) .none),(.val (.int .u32 (j))),(.val (.int .i64 (m))),(.val (.bool (b))),(.vec 2 (x) .none),(.val (.int .i64 (c))),(.val (.int .i64 (s))),(.vec 1 (d) .none)]),(.cells [(.val (.int .i64 4)),(.val (.int .i64 0)),(.val (.int .i64 0)),(.val (.int .u32 0)),(.vec 2 [] .none),(.vec 2 [] .none),(.val (.int .i64 0)),(.vec 1 [] .none),(.val (.int .u32 0)),(.val (.int .i64 0)),(.val (.bool false)),(.vec 2 [] .none),(.val (.int .i64 0)),(.val (.int .i64 0)),(.vec 1 [] .none)]),(.cells [(.val (.int .u8 255)),(.val (.int .u8 255)),(.val (.int .u8 255)),(.val (.int .u8 255)),(.val (.int .u8 255)),(.val (.int .u8 255)),(.val (.int .u8 255)),(.val (.int .u8 255)),(.val (.int .u8 255)),(.val (.int .u8 255)),(.val (.int .u8 255)),(.val (.int .u8 255)),(.val (.int .u8 255)),(.val (.int .u8 255)),(.val (.int .u8 255)),(.val (.int .u8 255))]),(.cells [(.val (.int .u8 255)),(.val (.int .u8 255)),(.val (.int .u8 255)),(.val (.int .u8 255)),(.val (.int .u8 255)),(.val (.int .u8 255)),(.val (.int .u8 255)),(.val (.int .u8 255)),(.val (.int .u8 255)),(.val (.int .u8 255)),(.val (.int .u8 255)),(.val (.int .u8 255)),(.val (.int .u8 255)),(.val (.int .u8 255)),(.val (.int .u8 255)),(.val (.int .u8 255))]),(.cells [(.val (.int .u8 255)),(.val (.int .u8 255)),(.val (.int .u8 255)),(.val (.int .u8 255)),(.val (.int .u8 255)),(.val (.int .u8 255)),(.val (.int .u8 255)),(.val (.int .u8 255)),(.val (.int .u8 255)),(.val (.int .u8 255)),(.val (.int .u8 255)),(.val (.int .u8 255)),(.val (.int .u8 255)),(.val (.int .u8 255)),(.val (.int .u8 255)),(.val (.int .u8 255))])], [(0,(1,false))]⟩ (.call ⟨(.builtin .append), #[(.tmp 32),(.tmp 33)], #[22,22]⟩) [(32,(.vec 1 (dH++ap (2:Int) (IntKind.wrap IntKind.i64 ((19:Int)+(↑(0:Nat):Int)))++ap (1:Int) k) (.tail 0 0))),(33,(.val (.slice .none 0 0)))] (.vec 1 (dH++ap (2:Int) (IntKind.wrap IntKind.i64 ((19:Int)+(↑(0:Nat):Int)))++ap (1:Int) k) (.tail 0 0)) ⟨[(.cells [(.val (.int .i64 (k))),(.val (.int .i64 (n))),(.val (.int .i64 (h))),(.val (.int .u32 (i))),(.vec 2 (l) .none),(.vec 2 (w) .none),(.val (.int .i64 (o))),(.vec 1 (p) .none),(.val (.int .u32 (j))),(.val (.int .i64 (m))),(.val (.bool (b))),(.vec 2 (x) .none),(.val (.int .i64 (c))),(.val (.int .i64 (s))),(.vec 1 (d) .none)]),(.cells [(.val (.int .i64 (k))),(.val (.int .i64 (n))),(.val (.int .i64 (h))),(.val (.int .u32 (i))),(.vec 2 (l) .none),(.vec 2 (w) .none),(.val (.int .i64 (o))),(.vec 1 (p) .none),(.val (.int .u32 (j))),(.val (.int .i64 (m))),(.val (.bool (b))),(.vec 2 (x) .none),(.val (.int .i64 (c))),(.val (.int .i64 (s))),(.vec 1 (d) .none)]),(.cells [(.val (.int .i64 4)),(.val (.int .i64 0)),(.val (.int .i64 0)),(.val (.int .u32 0)),(.vec 2 [] .none),(.vec 2 [] .none),(.val (.int .i64 0)),(.vec 1 [] .none),(.val (.int .u32 0)),(.val (.int .i64 0)),(.val (.bool false)),(.vec 2 [] .none),(.val (.int .i64 0)),(.val (.int .i64 0)),(.vec 1 [] .none)]),(.cells [(.val (.int .u8 255)),(.val (.int .u8 255)),(.val (.int .u8 255)),(.val (.int .u8 255)),(.val (.int .u8 255)),(.val (.int .u8 255)),(.val (.int .u8 255)),(.val (.int .u8 255)),(.val (.int .u8 255)),(.val (.int .u8 255)),(.val (.int .u8 255)),(.val (.int .u8 255)),(.val (.int .u8 255)),(.val (.int .u8 255)),(.val (.int .u8 255)),(.val (.int .u8 255))]),(.cells [(.val (.int .u8 255)),(.val (.int .u8 255)),(.val (.int .u8 255)),(.val (.int .u8 255)),(.val (.int .u8 255)),(.val (.int .u8 255)),(.val (.int .u8 255)),(.val (.int .u8 255)),(.val (.int .u8 255)),(.val (.int .u8 255)),(.val (.int .u8 255)),(.val (.int .u8 255)),(.val (.int .u8 255)),(.val (.int .u8 255)),(.val (.int .u8 255)),(.val (.int .u8 255))]),(.cells [(.val (.int .u8 255)),(.val (.int .u8 255)),(.val (.int .u8 255)),(.val (.int .u8 255)),(.val (.int .u8 255)),(.val (.int .u8 255)),(.val (.int .u8 255)),(.val (.int .u8 255)),(.val (.int .u8 255)),(.val (.int .u8 255)),(.val (.int .u8 255)),(.val (.int .u8 255)),(.val (.int .u8 255)),(.val (.int .u8 255)),(.val (.int .u8 255)),(.val (.int .u8 255))])], [(0,(1,false))]⟩∧
 Q (.vec 1 (dH++ap (2:Int) (IntKind.wrap IntKind.i64 ((19:Int)+(↑(0:Nat):Int)))++ap (1:Int) k) (.tail 0 0))))))))))))
 else Q (.val (.slice .none 0 0)))))):=by kernel_rfl
end
section
open Go.RowKit

theorem sf {f:FtV} (hf:byt f.d):IsB (fa f)∧(fa f).length≤4077:=by
 unfold fa
 cases hg:jY f
 ·exact ⟨.nil,Nat.zero_le _⟩
 ·unfold jY at hg
  simp only [Bool.and_eq_true,decide_eq_true_eq] at hg
  obtain ⟨h1,h2,h3,h4,h5⟩:=hg
  have hl:(bT f.c::bT f.s::bV f.d).length≤4077:=by simp only [List.length_cons,iE];omega
  refine ⟨⟨⟨f.c::f.s::f.d,rfl,fun z hz=> ?_⟩,by simp only [cond_true];omega⟩,hl⟩
  rcases List.mem_cons.1 hz with rfl | hz
  ·omega
  rcases List.mem_cons.1 hz with rfl | hz
  ·omega
  exact hf.1 z hz
theorem R1 (v:Bs):∀ro ys T K,wc xr v ro ys T K→VCx Tryz.prog ae ro LB ys T K:=by
 intro ro ys T K hw
 unfold wc at hw
 split at hw
 ·obtain ⟨⟨o,rfl,ho,rfl⟩,hk⟩:=hw
  exact VCx.liftPure aq (RN ho) (by simp only [ar,TV.ren,o.ren]) (fun f g=>by simp only [TV.ren,(nI ho.1).1.ren,Tok.ren]) hk
 ·exact hw.elim
theorem N1 (v:Bs):∀ro ys T K,wc xt v ro ys T K→VCx Tryz.prog ae ro Lm ys T K:=by
 intro ro ys T K hw
 unfold wc at hw
 split at hw
 ·obtain ⟨⟨u,rfl,hu,rfl⟩,hk⟩:=hw
  exact VCx.liftPure aq (Rw hu) (by simp only [ar,TV.ren,u.ren]) (fun f g=>by simp only [TV.ren,(rZ hu).1.ren,Tok.ren]) hk
 ·exact hw.elim
theorem R2 (v:Bs):∀ro ys T K,wc xu v ro ys T K→VCx Tryz.prog ae ro LE ys T K:=by
 intro ro ys T K hw
 unfold wc at hw
 split at hw
 ·obtain ⟨⟨f,rfl,hf,rfl⟩,hk⟩:=hw
  exact VCx.liftPure aq (RV hf) (by simp only [ar,TV.ren,f.ren]) (fun g h=>by
   have:=(sf hf).1.ren g h
   unfold fa at this
   simp only [TV.ren,this,Tok.ren]) hk
 ·exact hw.elim
def we (v:Bs) (l:List TV) (ok:Bool):TV:= .tup [.vec 1 v .none, .agg l, .val (.bool ok)]
theorem sX {v:Bs} {l:List TV} (hv:IsB v) (hl:∀f g,ar f g l=l) (ok:Bool) (f g:Nat→Option Nat):(we v l ok).ren f g=we v l ok:=by
 simp only [we,TV.ren,ar,hv.ren,hl,Tok.ren]
theorem wg (f g:Nat→Option Nat):ar f g sd=sd∧ar f g qr=qr∧ar f g qt=qt:=⟨rfl,rfl,rfl⟩
theorem R3 {o:OpV} (ho:oI o):VCx Tryz.prog ae 0 nF [.ifc 173 (.agg o.cells)] ⟨[], []⟩ fun x T' =>x=we (dt o) (.val (.int .i64 1)::(o.cells++(qr++qt))) (decide (((dt o).length:Int)>0))∧T' =⟨[], []⟩:=by
 have hy:=sX (v:=dt o) (l:= .val (.int .i64 1)::(o.cells++(qr++qt))) (nI ho.1).1 (fun f g=>by simp only [ar,TV.ren,la,o.ren,wg]) (decide (((dt o).length:Int)>0))
 refine VCx.toLe (Q:=fun T' =>T' =⟨[], []⟩) (VCx.keepV (Q:=fun x=>TVle x (we (dt o) (.val (.int .i64 1)::(o.cells++(qr++qt))) (decide (((dt o).length:Int)>0)))) (ai ac aa (aJ fun p hp=>by obtain rfl:=List.mem_singleton.1 hp;exact R1 _) ah (TH o.n o.h o.i (bv o.l) (dt o) _) ⟨⟨o,rfl,ho,rfl⟩,⟨rfl,rfl,trivial⟩, ?_⟩))
 have hB:=(nI ho.1).1
 simp only [TV.ren,ar,hB.ren,iQ,Tok.ren]
 exact .tup ⟨.refl _, .agg ⟨.refl _, .refl _, .refl _, .refl _, .refl _, .nil 2, .refl _, .nil 1, .refl _, .refl _, .refl _, .nil 2, .refl _, .refl _, .nil 1,trivial⟩, .refl _,trivial⟩
theorem N2 {u:UpV} (hu:iD u):VCx Tryz.prog ae 0 nF [.ifc 176 (.agg u.cells)] ⟨[], []⟩ fun x T' =>x=we (gm u) (.val (.int .i64 2)::(sd++(u.cells++qt))) (decide (((gm u).length:Int)>0))∧T' =⟨[], []⟩:=by
 refine VCx.toLe (Q:=fun T' =>T' =⟨[], []⟩) (VCx.keepV (Q:=fun x=>TVle x (we (gm u) (.val (.int .i64 2)::(sd++(u.cells++qt))) (decide (((gm u).length:Int)>0)))) (ai ac aa (aJ fun p hp=>by obtain rfl:=List.mem_singleton.1 hp;exact N1 _) ah (TI (aW u.w) (iV u.a.p) (aW u.n) (gm u) u.a.o u.a.h u.a.m u.a.hm _) ⟨⟨u,rfl,hu,rfl⟩,⟨rfl,rfl,trivial⟩, ?_⟩))
 have hB:=(rZ hu).1
 simp only [TV.ren,ar,hB.ren,gi,dd,Tok.ren]
 exact .tup ⟨.refl _, .agg ⟨.refl _, .refl _, .refl _, .refl _, .nil 2, .refl _, .refl _, .refl _, .refl _, .refl _, .refl _, .refl _, .refl _, .refl _, .nil 1,trivial⟩, .refl _,trivial⟩
theorem N3 {f:FtV} (hf:byt f.d):VCx Tryz.prog ae 0 nF [.ifc 179 (.agg f.cells)] ⟨[], []⟩ fun x T' =>x=we (fa f) (.val (.int .i64 3)::(sd++(qr++f.cells))) (decide (((fa f).length:Int)>0))∧T' =⟨[], []⟩:=by
 refine VCx.toLe (Q:=fun T' =>T' =⟨[], []⟩) (VCx.keepV (Q:=fun x=>TVle x (we (fa f) (.val (.int .i64 3)::(sd++(qr++f.cells))) (decide (((fa f).length:Int)>0)))) (ai ac aa (aJ fun p hp=>by obtain rfl:=List.mem_singleton.1 hp;exact R2 _) ah (R0 f.c f.s (bV f.d) (fa f) _) ⟨⟨f,rfl,hf,rfl⟩,⟨rfl,rfl,trivial⟩, ?_⟩))
 have hB:=(sf hf).1
 simp only [TV.ren,ar,hB.ren,mY,Tok.ren]
 exact .tup ⟨.refl _, .agg ⟨.refl _, .refl _, .refl _, .refl _, .nil 2, .nil 2, .refl _, .nil 1, .refl _, .refl _, .refl _, .nil 2, .refl _, .refl _, .refl _,trivial⟩, .refl _,trivial⟩
def LR (k:Int) (ok:Bool):TV:= .tup [.val (.slice none 0 0), .agg (.val (.int .i64 k)::(sd++(qr++qt))), .val (.bool ok)]
theorem R4:VCx Tryz.prog ae 0 nF [.ifc 181 (.agg [])] ⟨[], []⟩ fun x T' =>x=LR 4 true∧T' =⟨[], []⟩:=by
 refine VCx.toLe (Q:=fun T' =>T' =⟨[], []⟩) (VCx.keepV (Q:=fun x=>TVle x (LR 4 true)) (ai ac aa an ah (TJ _) ?_))
 exact .tup ⟨.refl _, .agg ⟨.refl _, .refl _, .refl _, .refl _, .nil 2, .nil 2, .refl _, .nil 1, .refl _, .refl _, .refl _, .nil 2, .refl _, .refl _, .nil 1,trivial⟩, .refl _,trivial⟩
theorem R5:VCx Tryz.prog ae 0 nF [.val .nilIface] ⟨[], []⟩ fun x T' =>x=LR 0 false∧T' =⟨[], []⟩:=by
 refine VCx.toLe (Q:=fun T' =>T' =⟨[], []⟩) (VCx.keepV (Q:=fun x=>TVle x (LR 0 false)) (ai ac aa an ah (TK _) ?_))
 exact .tup ⟨.refl _, .agg ⟨.refl _, .refl _, .refl _, .refl _, .nil 2, .nil 2, .refl _, .nil 1, .refl _, .refl _, .refl _, .nil 2, .refl _, .refl _, .nil 1,trivial⟩, .refl _,trivial⟩
theorem HZ (v1 v2 v3:Bs):∀ro ys T K,DB v1 v2 v3 ro ys T K→VCx Tryz.prog ae ro nF ys T K:=by
 intro ro ys T K hw
 unfold DB at hw
 split at hw
 ·obtain ⟨⟨o,rfl,ho,rfl⟩,hk⟩:=hw
  exact VCx.liftPure aq (R3 ho) (by simp only [ar,TV.ren,o.ren]) (sX (nI ho.1).1 (fun f g=>by simp only [ar,TV.ren,la,o.ren,wg]) _) hk
 ·obtain ⟨⟨u,rfl,hu,rfl⟩,hk⟩:=hw
  exact VCx.liftPure aq (N2 hu) (by simp only [ar,TV.ren,u.ren]) (sX (rZ hu).1 (fun f g=>by simp only [ar,TV.ren,la,u.ren,wg]) _) hk
 ·obtain ⟨⟨o,rfl,ho,rfl⟩,hk⟩:=hw
  exact VCx.liftPure aq (N3 ho) (by simp only [ar,TV.ren,o.ren]) (sX (sf ho).1 (fun f g=>by simp only [ar,TV.ren,la,o.ren,wg]) _) hk
 ·exact VCx.liftPure aq R4 rfl (fun _ _=>rfl) hw
 ·exact VCx.liftPure aq R5 rfl (fun _ _=>rfl) hw
 ·exact hw.elim
theorem MsV.ren (m:MsV) (f g:Nat→Option Nat):ar f g m.cells=m.cells:=by
 simp only [MsV.cells,ar,TV.ren,la,m.op.ren,m.u.ren,m.f.ren]
theorem oq (m:MsV):RY m.cells=m:=by
 obtain ⟨k,⟨n,h,i,l⟩,⟨w,⟨o,p,j,q,b⟩,x⟩,⟨c,s,d⟩⟩:=m
 show MsV.mk k ⟨n,h,i,(bv l).map Dw⟩ ⟨tE (aW w),⟨o,yw (iV p),j,q,b⟩,tE (aW x)⟩ ⟨c,s,bZ (bV d)⟩=_
 rw [lf,gQ,gQ,jt,om]
def MsV.toS (m:MsV):MsgS:=⟨m.k,⟨m.op.n,m.op.h,m.op.i,bv m.op.l⟩,⟨aW m.u.w,m.u.a.o,iV m.u.a.p,m.u.a.h,m.u.a.m,m.u.a.hm,aW m.u.n⟩,m.f.c,m.f.s,bV m.f.d⟩
theorem R6 {a b:MsV} (ha:lg a) (hb:lg b) (hc:BP a b):VCx Tryz.prog ae 0 yF [.agg a.cells, .agg b.cells] ⟨[], []⟩ fun x T' =>x= .val (.bool (decide (a=b)))∧T' =⟨[], []⟩:=by
 have hS:aZ Tryz.prog ae (aC [(LC,qq Fh (decide (a.op=b.op))),(Ln,qq Fi (decide (a.u=b.u))),(LF,qq Fj (decide (a.f=b.f)))]):=aJ fun p hp=>by
  rcases List.mem_cons.1 hp with rfl | hp
  ·intro ro ys T K hw
   replace hw:qq Fh (decide (a.op=b.op)) ro ys T K:=hw
   unfold qq at hw
   split at hw
   ·obtain ⟨⟨p,q,⟨rfl,rfl⟩,h1,e⟩,hk⟩:=hw
    rw [e] at hk
    exact VCx.liftPure aq (RS h1) (by simp only [ar,TV.ren,OpV.ren]) (fun _ _=>rfl) hk
   ·exact hw.elim
  rcases List.mem_cons.1 hp with rfl | hp
  ·intro ro ys T K hw
   replace hw:qq Fi (decide (a.u=b.u)) ro ys T K:=hw
   unfold qq at hw
   split at hw
   ·obtain ⟨⟨p,q,⟨rfl,rfl⟩,⟨h1,h2⟩,e⟩,hk⟩:=hw
    rw [e] at hk
    exact VCx.liftPure aq (Rx h1 h2.2.2.1) (by simp only [ar,TV.ren,UpV.ren]) (fun _ _=>rfl) hk
   ·exact hw.elim
  ·obtain rfl:=List.mem_singleton.1 hp
   intro ro ys T K hw
   replace hw:qq Fj (decide (a.f=b.f)) ro ys T K:=hw
   unfold qq at hw
   split at hw
   ·obtain ⟨⟨p,q,⟨rfl,rfl⟩,⟨h1,h2⟩,e⟩,hk⟩:=hw
    rw [e] at hk
    exact VCx.liftPure aq (RX h1 h2) (by simp only [ar,TV.ren,FtV.ren]) (fun _ _=>rfl) hk
   ·exact hw.elim
 refine VCx.keepV (Q:=fun x=>x= .val (.bool (decide (a=b)))) (ai ac aa hS ah (TE a.toS b.toS (decide (a.op=b.op)) (decide (a.u=b.u)) (decide (a.f=b.f)) _) ?_)
 have fin:∀q:Bool,decide (a=b)=q→(TV.val (.bool q)).ren (aw 0) (aw 0)= .val (.bool (decide (a=b))):=fun q h=>by rw [h];rfl
 rw [ec]
 refine am (fun c1=>⟨⟨a.op,b.op,⟨rfl,rfl⟩,hc,rfl⟩,am (fun c2=>⟨⟨a.u,b.u,⟨rfl,rfl⟩,⟨ha.2.1,hb.2.1⟩,rfl⟩,am (fun c3=>⟨⟨a.f,b.f,⟨rfl,rfl⟩,⟨ha.2.2,hb.2.2⟩,rfl⟩,fin _ ?_⟩) (fun c3=>fin _ ?_)⟩) (fun c2=>fin _ ?_)⟩) (fun c1=>fin _ ?_)
 ·have d1:a.k=b.k:=of_decide_eq_true c1
  have d2:=of_decide_eq_true c2
  have d3:=of_decide_eq_true c3
  refine decide_eq_decide.2 ⟨fun h=>by rw [h],fun h=> ?_⟩
  obtain ⟨k,o,u,f⟩:=a
  obtain ⟨k2,o2,u2,f2⟩:=b
  simp only at d1 d2 d3 h
  rw [d1,d2,d3,h]
 ·exact decide_eq_false fun h=>of_decide_eq_false c3 (by rw [h])
 ·exact decide_eq_false fun h=>of_decide_eq_false c2 (by rw [h])
 ·exact decide_eq_false fun h=>of_decide_eq_false c1 (by rw [h])
theorem BT:∀ro ys T K,BQ ro ys T K→VCx Tryz.prog ae ro yF ys T K:=by
 intro ro ys T K hw
 unfold BQ at hw
 split at hw
 ·obtain ⟨⟨a,b,rfl,rfl,⟨h1,h2⟩,h3⟩,hk⟩:=hw
  exact VCx.liftPure aq (R6 h1 h2 h3) (by simp only [ar,TV.ren,MsV.ren]) (fun _ _=>rfl) (hk _ (by unfold lh;rw [oq,oq]))
 ·exact hw.elim
end
section
open Go.RowKit

theorem uw {objs:List VO} {A c:Bs} {s x:Nat} {l:List (Nat × TV)} (hs:aS ae l (.tmp s)= .vec 1 A (.tail 0 0)) (hx:aS ae l (.tmp x)= .vec 1 c .none) (h:A.length+c.length≤1000000):
  ba Tryz.prog ae 0 ⟨objs, [(0,1,false)]⟩ (.call ⟨.builtin .append, #[.tmp s, .tmp x], #[22,22]⟩) l (.vec 1 (A++c) (.tail 0 (0+c.length))) ⟨objs, [(0+c.length,1,false)]⟩:=
 iO (ro:=0) (T:=⟨objs, [(0,1,false)]⟩) (T1:=⟨objs, [(0,1,false)]⟩) (s:= .tmp s) (x:= .tmp x) (l:=l) (es:=A) (es2:=c) (k:=0) (n:=0) (bn:=false) (by rw [hs];rfl) (by rw [hx];rfl) (by omega)
theorem H0 {objs:List VO} {A:Bs} {s x:Nat} {l:List (Nat × TV)} (hs:aS ae l (.tmp s)= .vec 1 A (.tail 0 0)) (hx:aS ae l (.tmp x)= .val (.slice none 0 0)) (h:A.length≤1000000):
  ba Tryz.prog ae 0 ⟨objs, [(0,1,false)]⟩ (.call ⟨.builtin .append, #[.tmp s, .tmp x], #[22,22]⟩) l (.vec 1 A (.tail 0 0)) ⟨objs, [(0,1,false)]⟩:=by
 have h:=iO (ro:=0) (T:=⟨objs, [(0,1,false)]⟩) (T1:=⟨objs, [(0,1,false)]⟩) (s:= .tmp s) (x:= .tmp x) (l:=l) (es:=A) (es2:= []) (k:=0) (n:=0) (bn:=false) (by rw [hs];rfl) (by rw [hx];rfl) (by simp;omega)
 rw [List.append_nil] at h
 exact h
theorem zn:PwM 16 dH:=⟨⟨⟨_,rfl,fun z hz=>by rw [List.eq_of_mem_replicate hz];decide⟩,by unfold dH;rw [iE];decide⟩,by decide,by unfold dH;rw [iE];decide⟩
theorem N4:BS=(List.replicate 16 (Value.int .u8 255)).map .val:=rfl
theorem N5 {ro i:Nat} {T:VT} {n k:Nat} (hk:k≤8) (ho:T.objs[i]?=some (.cells BS)):VCx Tryz.prog ae ro dN [.sl i 0 16 16, .val (.int .u64 n), .val (.int .i64 k)] T fun x T' =>x= .vec 1 (dH++rt k n) .none∧T' =T:=by
  have hvs:(List.replicate 16 (Value.int .u8 255)++ii (cU n k)).length=16+k:=by rw [List.length_append,List.length_replicate];simp [ii,cU]
  have h:=VCx.ofOwnAt (P:=Tryz.prog) (G:=ae) (ro:=ro) (T:=T) (f:=dN) (xs:= [.sl i 0 16 16, .val (.int .u64 n), .val (.int .i64 k)]) (ty:=5) (vs:=List.replicate 16 (Value.int .u8 255)++ii (cU n k)) (fun v hv=> ?_) (by rw [hvs];unfold maxLen;omega) (fun g w us r hx=> ?_)
  · refine h.mono ?_
    rintro x T' ⟨rfl,rfl⟩
    refine ⟨?_,rfl⟩
    rw [List.map_append,ru,←jU];rfl
  · rcases List.mem_append.1 hv with hv | hv
    · rw [List.eq_of_mem_replicate hv];rfl
    · obtain ⟨z,_,rfl⟩:=List.mem_map.1 hv;rfl
  · match us,hx.1 with
    | [v,u1,u2],_=>
      have hv:=hx.2 0 _ v rfl rfl
      obtain rfl:=(hx.2 1 _ u1 rfl rfl).val_inv
      obtain rfl:=(hx.2 2 _ u2 rfl rfl).val_inv
      have:=At v 16 (List.replicate 16 (Value.int .u8 255)) (fun u hu=>by rw [List.eq_of_mem_replicate hu];rfl) n k hk (by omega) w (Te r (by rw [ho,N4]) hv (by simp) (by unfold maxLen;omega))
      rw [hvs];exact this
theorem N6:∀ro ys T K,Kw ro ys T K→VCx Tryz.prog ae ro dN ys T K:=by
 intro ro ys T K hw
 unfold Kw at hw
 split at hw
 ·rename_i i n k
  obtain ⟨⟨_,ho⟩,⟨⟨h1,_⟩,h2,h3⟩,hk⟩:=hw
  obtain ⟨n,rfl⟩:=Int.eq_ofNat_of_zero_le h1
  obtain ⟨k,rfl⟩:=Int.eq_ofNat_of_zero_le h2
  refine (N5 (ro:=ro) (n:=n) (k:=k) (by omega) ho).mono ?_
  rintro x T' ⟨rfl,rfl⟩
  exact hk
 ·exact hw.elim
theorem R7:∀ro ys T K,LQ ro ys T K→VCx Tryz.prog ae ro iC ys T K:=by
 intro ro ys T K hw
 unfold LQ at hw
 split at hw
 ·rename_i i q n
  obtain ⟨⟨rfl,hro,ho⟩,hn,hk⟩:=hw
  have hB:=(zn.step (k:=2) (n:=n) (by decide) (by decide)).1
  refine VCx.atKeep (R:=fun x=>x= .vec 1 (dH++ap 2 n) .none) (ys1:= [.sl 0 0 16 16, .val (.int .i64 n)]) aq (Nat.le_of_ble_eq_true hro) ho rfl (fun _ _=>rfl) ?_ ?_ fun x hx=> ?_
  ·simp only [ar,TV.ren]
   exact ⟨by simp [bb];exact .refl _, .refl _,trivial⟩
  ·exact ai ac aa (aJ fun p hp=>by obtain rfl:=List.mem_singleton.1 hp;exact N6) ah (N0 n _) ⟨⟨rfl,rfl⟩,by rw [jx hn.1.1 hn.1.2];exact hn,by rw [jx hn.1.1 hn.1.2];exact ⟨rfl,rfl⟩⟩
  ·subst hx;exact ⟨fun f g=>by simp only [TV.ren,hB.ren,Tok.ren],hk⟩
 ·exact hw.elim
def uy (m:MsV):MsV:=⟨1,m.op,BN,BO⟩
def xv (m:MsV):MsV:=⟨2,BM,m.u,BO⟩
def xw (m:MsV):MsV:=⟨3,BM,BN,m.f⟩
def sg:MsV:=⟨4,BM,BN,BO⟩
def cW (m:MsV):Bs:=bif decide (m.k=1) then dt m.op else bif decide (m.k=2) then gm m.u else bif decide (m.k=3) then fa m.f else []
def fb (m:MsV):Bool:=bif decide (m.k=1) then decide (((dt m.op).length:Int)>0)&&decide (m=uy m) else bif decide (m.k=2) then decide (((gm m.u).length:Int)>0)&&decide (m=xv m) else bif decide (m.k=3) then decide (((fa m.f).length:Int)>0)&&decide (m=xw m) else bif decide (m.k=4) then decide (m=sg) else false
def H2 (k:Int) (v:Bs):Bs:=dH++ap 2 (19+(v.length:Int))++ap 1 k++v
def bq (m:MsV):Bs:=bif fb m then H2 m.k (cW m) else []
theorem LS:oI BM∧iD BN∧byt BO.d:=⟨⟨⟨(fun _ h=>by cases h),by decide⟩,by decide,by decide⟩,⟨by decide,by decide,by decide,by decide,by decide⟩,⟨(fun _ h=>by cases h),by decide⟩⟩
theorem BU:jK []:=⟨(fun _ h=>by cases h),by decide⟩
theorem xx {m:MsV} {o:MsV} (h:o.op.l= []):BP m o:=fun e=>by
 rw [h] at e ⊢
 rw [List.eq_nil_of_length_eq_zero e]
 exact ⟨BU,BU⟩
theorem R8 {o:OpV} (ho:oI o) (hg:ld o.l=true):jK o.l:=⟨fun c hc=>⟨ho.1.1 c hc,by have h:=(iR ho.1 hg).1 c hc;have:=h.2.2;rw [iE] at this;omega⟩,ho.1.2⟩
theorem Kx {m:MsV} (hm:lg m) (hd:decide (((dt m.op).length:Int)>0)=true):BP m (uy m):=fun _=>by
  have hg:jb m.op=true:=by
    cases h:jb m.op
    · have e:dt m.op= []:=by unfold dt;rw [h];rfl
      rw [e] at hd;simp at hd
    · rfl
  exact ⟨R8 hm.1 (sc hg).l,R8 hm.1 (sc hg).l⟩
theorem iS {m o:MsV} {ok:Bool} (h:lh m.cells o.cells ok):ok=decide (m=o):=by
 unfold lh at h
 rwa [oq,oq] at h
theorem Fk {k:Int} {v:Bs} (hv:IsB v) (hl:v.length≤4077):PwM 4109 (H2 k v):=((zn.step (by decide) (by decide)).step (by decide) (by decide)).app (q:=4077) hv hl (by decide)
theorem si {m:MsV} (hm:lg m):IsB (cW m)∧(cW m).length≤4077:=by
 unfold cW
 have h1:=nI hm.1.1
 have h2:=rZ hm.2.1
 have h3:=sf hm.2.2
 cases decide (m.k=1)
 ·cases decide (m.k=2)
  ·cases decide (m.k=3)
   ·exact ⟨.nil,Nat.zero_le _⟩
   ·exact h3
  ·exact h2
 ·exact ⟨h1.1,Nat.le_trans h1.2 (by decide)⟩
theorem R9 {m:MsV} (hm:lg m):VCx Tryz.prog ae 0 Ry [.agg m.cells] ⟨[], []⟩ fun x T' =>x= .val (.bool (fb m))∧T' =⟨[], []⟩:=by
 have hS:aZ Tryz.prog ae (aC [(nF,DB (dt m.op) (gm m.u) (fa m.f)),(yF,BQ)]):=aJ fun p hp=>by
  rcases List.mem_cons.1 hp with rfl | hp;exact HZ _ _ _
  obtain rfl:=List.mem_singleton.1 hp;exact BT
 refine VCx.keepV (Q:=fun x=>x= .val (.bool (fb m))) (ai ac aa hS ah (TL m.k m.op.n m.op.h m.op.i m.u.a.o m.u.a.h m.u.a.m m.f.c m.f.s m.u.a.hm (bv m.op.l) (aW m.u.w) (iV m.u.a.p) (aW m.u.n) (bV m.f.d) (dt m.op) (gm m.u) (fa m.f) _) ?_)
 have fin:∀q:Bool,fb m=q→(TV.val (.bool q)).ren (aw 0) (aw 0)= .val (.bool (fb m)):=fun q h=>by rw [h];rfl
 have z:=LS
 rw [ec,ec,ec,ec]
 unfold fb at fin ⊢
 refine am (fun c1=> ?_) (fun c1=>am (fun c2=> ?_) (fun c2=>am (fun c3=> ?_) (fun c3=>am (fun c4=> ?_) (fun c4=> ?_))))
 ·rw [c1] at fin ⊢
  refine ⟨⟨_,rfl,hm.1,rfl⟩,am (fun d=>⟨⟨m,uy m,rfl,rfl,⟨hm,hm.1,z.2.1,z.2.2⟩,Kx hm d⟩,fun ok hok=>fin _ ?_⟩) (fun d=>fin _ ?_)⟩
  ·rw [iS (m:=m) (o:=uy m) hok,d];rfl
  ·rw [d];rfl
 ·rw [c1,c2] at fin ⊢
  refine ⟨⟨_,rfl,hm.2.1,rfl⟩,am (fun d=>⟨⟨m,xv m,rfl,rfl,⟨hm,z.1,hm.2.1,z.2.2⟩,xx rfl⟩,fun ok hok=>fin _ ?_⟩) (fun d=>fin _ ?_)⟩
  ·rw [iS (m:=m) (o:=xv m) hok,d];rfl
  ·rw [d];rfl
 ·rw [c1,c2,c3] at fin ⊢
  refine ⟨⟨_,rfl,hm.2.2,rfl⟩,am (fun d=>⟨⟨m,xw m,rfl,rfl,⟨hm,z.1,z.2.1,hm.2.2⟩,xx rfl⟩,fun ok hok=>fin _ ?_⟩) (fun d=>fin _ ?_)⟩
  ·rw [iS (m:=m) (o:=xw m) hok,d];rfl
  ·rw [d];rfl
 ·rw [c1,c2,c3,c4] at fin ⊢
  refine ⟨⟨m,sg,rfl,rfl,⟨hm,z⟩,xx rfl⟩,fun ok hok=>fin _ ?_⟩
  rw [iS (m:=m) (o:=sg) hok];rfl
 ·rw [c1,c2,c3,c4] at fin ⊢
  exact fin _ rfl
attribute [local irreducible] dH ap

set_option maxHeartbeats 1000000 in
theorem Sa {m:MsV} (hm:lg m):VCx Tryz.prog ae 0 Rz [.agg m.cells] ⟨[], []⟩ fun x T' =>x= .vec 1 (bq m) .none∧T' =⟨[], []⟩:=by
  have hS:aZ Tryz.prog ae (aC [(nF,DB (dt m.op) (gm m.u) (fa m.f)),(yF,BQ),(lX,nE .i64 1),(iC,LQ)]):=aJ fun p hp=>by
    rcases List.mem_cons.1 hp with rfl | hp;exact HZ _ _ _
    rcases List.mem_cons.1 hp with rfl | hp;exact BT
    rcases List.mem_cons.1 hp with rfl | hp;exact BF
    obtain rfl:=List.mem_singleton.1 hp;exact R7
  refine VCx.toLe (Q:=fun T' =>T' =⟨[], []⟩) (VCx.keepV (Q:=fun x=>TVle x (.vec 1 (bq m) .none)) (ai ac aa hS ah (TM m.k m.op.n m.op.h m.op.i m.u.a.o m.u.a.h m.u.a.m m.f.c m.f.s m.u.a.hm (bv m.op.l) (aW m.u.w) (iV m.u.a.p) (aW m.u.n) (bV m.f.d) (dt m.op) (gm m.u) (fa m.f) _) ?_))
  have z:=LS
  have nil:fb m=false→TVle ((TV.val (.slice none 0 0)).ren (aw 0) (aw 0)) (.vec 1 (bq m) .none):=fun h=>by unfold bq;rw [h];exact .nil 1
  have some_:∀(k:Int) (v:Bs) (tok:Tok),m.k=k→fb m=true→cW m=v→IsB v→v.length≤4077→TVle ((TV.vec 1 (dH++ap 2 (19+(v.length:Int))++ap 1 m.k++v) tok).ren (aw 0) (aw 0)) (.vec 1 (bq m) .none):=fun k v tok hk hg hc hv hl=>by
    have h:=(Fk (k:=m.k) hv hl).1
    have e:bq m=H2 m.k v:=by unfold bq;rw [hg,hc];rfl
    rw [e]
    simp only [TV.ren]
    rw [show bg (aw 0) (aw 0) (dH++ap 2 (19+(v.length:Int))++ap 1 m.k++v)=H2 m.k v from h.ren _ _]
    exact .vec 1 _ _
  have wN:∀n:Nat,n≤4077→IntKind.i64.wrap (19+(n:Int))=19+(n:Int):=fun n h=>bP (by omega) (by omega)
  have pN:∀n:Nat,n≤4077→co (19+(n:Int)) 2:=fun n h=>⟨⟨by omega,by omega⟩,by decide,by decide⟩
  have hV:∀n:Int,gH (dH++ap 2 n):=fun n=>(zn.step (by decide) (by decide)).v
  have hH:∀n:Int,(dH++ap 2 n++ap 1 m.k).length≤32:=fun n=>((zn.step (k:=2) (n:=n) (by decide) (by decide)).step (k:=1) (n:=m.k) (by decide) (by decide)).2.2
  have h1:=nI hm.1.1
  have h2:=rZ hm.2.1
  have h3:=sf hm.2.2
  rw [ec,ec,ec,ec,wN _ (Nat.le_trans h1.2 (by decide)),wN _ h2.2,wN _ h3.2]
  refine am (fun c1=> ?_) (fun c1=>am (fun c2=> ?_) (fun c2=>am (fun c3=> ?_) (fun c3=>am (fun c4=> ?_) (fun c4=> ?_))))
  · have hg:fb m=(decide (((dt m.op).length:Int)>0)&&decide (m=uy m)):=by unfold fb;rw [c1];rfl
    have hc:cW m=dt m.op:=by unfold cW;rw [c1];rfl
    have hk:=of_decide_eq_true c1
    refine ⟨⟨_,rfl,hm.1,rfl⟩, ?_⟩
    cases d:decide (((dt m.op).length:Int)>0)
    · exact aQ rfl (nil (by rw [hg,d];rfl))
    refine aM rfl ⟨⟨m,uy m,rfl,rfl,⟨hm,hm.1,z.2.1,z.2.2⟩,Kx hm d⟩,fun ok hok=> ?_⟩
    have e:=iS (m:=m) (o:=uy m) hok
    rw [d,←e,Bool.true_and] at hg
    subst hg
    cases hgg:fb m
    · exact aQ rfl (nil hgg)
    · exact aM rfl ⟨⟨rfl,rfl,rfl⟩,pN _ (Nat.le_trans h1.2 (by decide)),⟨rfl,trivial,trivial⟩,rfl,⟨⟨⟨by omega,by omega⟩,by decide,by decide⟩,hV _⟩,uw rfl rfl (by have:=hH (19+((dt m.op).length:Int));have:=h1.2;omega),some_ 1 _ _ hk hgg hc h1.1 (Nat.le_trans h1.2 (by decide))⟩
  · have hg:fb m=(decide (((gm m.u).length:Int)>0)&&decide (m=xv m)):=by unfold fb;rw [c1,c2];rfl
    have hc:cW m=gm m.u:=by unfold cW;rw [c1,c2];rfl
    have hk:=of_decide_eq_true c2
    refine ⟨⟨_,rfl,hm.2.1,rfl⟩, ?_⟩
    cases d:decide (((gm m.u).length:Int)>0)
    · exact aQ rfl (nil (by rw [hg,d];rfl))
    refine aM rfl ⟨⟨m,xv m,rfl,rfl,⟨hm,z.1,hm.2.1,z.2.2⟩,xx rfl⟩,fun ok hok=> ?_⟩
    have e:=iS (m:=m) (o:=xv m) hok
    rw [d,←e,Bool.true_and] at hg
    subst hg
    cases hgg:fb m
    · exact aQ rfl (nil hgg)
    · exact aM rfl ⟨⟨rfl,rfl,rfl⟩,pN _ h2.2,⟨rfl,trivial,trivial⟩,rfl,⟨⟨⟨by omega,by omega⟩,by decide,by decide⟩,hV _⟩,uw rfl rfl (by have:=hH (19+((gm m.u).length:Int));have:=h2.2;omega),some_ 2 _ _ hk hgg hc h2.1 h2.2⟩
  · have hg:fb m=(decide (((fa m.f).length:Int)>0)&&decide (m=xw m)):=by unfold fb;rw [c1,c2,c3];rfl
    have hc:cW m=fa m.f:=by unfold cW;rw [c1,c2,c3];rfl
    have hk:=of_decide_eq_true c3
    refine ⟨⟨_,rfl,hm.2.2,rfl⟩, ?_⟩
    cases d:decide (((fa m.f).length:Int)>0)
    · exact aQ rfl (nil (by rw [hg,d];rfl))
    refine aM rfl ⟨⟨m,xw m,rfl,rfl,⟨hm,z.1,z.2.1,hm.2.2⟩,xx rfl⟩,fun ok hok=> ?_⟩
    have e:=iS (m:=m) (o:=xw m) hok
    rw [d,←e,Bool.true_and] at hg
    subst hg
    cases hgg:fb m
    · exact aQ rfl (nil hgg)
    · exact aM rfl ⟨⟨rfl,rfl,rfl⟩,pN _ h3.2,⟨rfl,trivial,trivial⟩,rfl,⟨⟨⟨by omega,by omega⟩,by decide,by decide⟩,hV _⟩,uw rfl rfl (by have:=hH (19+((fa m.f).length:Int));have:=h3.2;omega),some_ 3 _ _ hk hgg hc h3.1 h3.2⟩
  · have hg:fb m=decide (m=sg):=by unfold fb;rw [c1,c2,c3,c4];rfl
    have hc:cW m= []:=by unfold cW;rw [c1,c2,c3];rfl
    have hk:=of_decide_eq_true c4
    refine ⟨⟨m,sg,rfl,rfl,⟨hm,z⟩,xx rfl⟩,fun ok hok=> ?_⟩
    have e:=iS (m:=m) (o:=sg) hok
    rw [←e] at hg
    subst hg
    cases hgg:fb m
    · exact aQ rfl (nil hgg)
    · have s4:=some_ 4 [] (.tail 0 0) hk hgg hc .nil (Nat.zero_le _)
      rw [List.append_nil] at s4
      exact aM rfl ⟨⟨rfl,rfl,rfl⟩,pN 0 (by decide),⟨rfl,trivial,trivial⟩,rfl,⟨⟨⟨by omega,by omega⟩,by decide,by decide⟩,hV _⟩,H0 rfl rfl (by have:=hH (IntKind.i64.wrap (19+((0:Nat):Int)));omega),s4⟩
  · exact nil (by unfold fb;rw [c1,c2,c3,c4];rfl)
end
section
open Go.RowKit

theorem nJ (x r:Bs):bR (x.length:Int) (x++r) 0=x∧aA (x.length:Int) (x++r) 0=r∧aB (x.length:Int) (x++r) 0=0:=by
 have h:cn (x.length:Int) (x++r) 0=true:=by
  unfold cn
  rw [decide_eq_true (show (0:Int)=0 from rfl),decide_eq_true (show (0:Int)≤x.length by omega),decide_eq_true (show (x.length:Int)≤((x++r).length:Nat) by rw [List.length_append];omega)]
  rfl
 refine ⟨?_, ?_, ?_⟩
 ·unfold bR;rw [h];simp
 ·unfold aA;rw [h];simp
 ·unfold aB
  rw [decide_eq_true (show (0:Int)=0 from rfl),decide_eq_false (show ¬(x.length:Int)<0 by omega),decide_eq_true (show (x.length:Int)≤((x++r).length:Nat) by rw [List.length_append];omega)]
  rfl
theorem zo {x r b:Bs} {n:Int} (hb:b=x++r) (hn:n=x.length):bR n b 0=x∧aA n b 0=r∧aB n b 0=0:=by subst hb hn;exact nJ x r
theorem BV {x r:Bs} {k:Nat} (hk:k=x.length):aL k (x++r) 0=eo x:=by
 subst hk
 have h:cn (x.length:Int) (x++r) 0=true:=by
  unfold cn
  rw [decide_eq_true (show (0:Int)=0 from rfl),decide_eq_true (show (0:Int)≤x.length by omega),decide_eq_true (show (x.length:Int)≤((x++r).length:Nat) by rw [List.length_append];omega)]
  rfl
 unfold aL;rw [h];simp
theorem jZ (z:Int):eJ (bT z)=z:=rfl
theorem BW {n:Int} (h:0≤n∧n<256):ap 1 n= [bT n]:=by
 obtain ⟨m,rfl⟩:=Int.eq_ofNat_of_zero_le h.1
 show bV ((cU m 1).map fun z:Nat=>(z:Int))=_
 have:cU m 1= [m/2^0%256]:=rfl
 rw [this]
 simp only [List.map_cons,List.map_nil,bV]
 rw [show m/2^0%256=m by omega]
theorem UY (m:Nat):ap 2 (m:Int)= [bT ((m/256%256:Nat):Int),bT ((m%256:Nat):Int)]:=by
 show bV ((cU m 2).map fun z:Nat=>(z:Int))=_
 have:cU m 2= [m/2^8%256,m/2^0%256]:=rfl
 rw [this]
 simp only [List.map_cons,List.map_nil,bV]
 rw [show m/2^0%256=m%256 by omega,show m/2^8%256=m/256%256 by omega]
theorem Un (m:Nat):ap 4 (m:Int)= [bT ((m/16777216%256:Nat):Int),bT ((m/65536%256:Nat):Int),bT ((m/256%256:Nat):Int),bT ((m%256:Nat):Int)]:=by
 show bV ((cU m 4).map fun z:Nat=>(z:Int))=_
 have:cU m 4= [m/2^24%256,m/2^16%256,m/2^8%256,m/2^0%256]:=rfl
 rw [this]
 simp only [List.map_cons,List.map_nil,bV]
 rw [show m/2^0%256=m%256 by omega,show m/2^8%256=m/256%256 by omega,show m/2^16%256=m/65536%256 by omega,show m/2^24%256=m/16777216%256 by omega]
theorem Uo {n:Int} (h:0≤n∧n<256):eo (ap 1 n)=n:=by
 rw [BW h]
 show 0*256+eJ (bT n)=n
 rw [jZ];omega
theorem Up {n:Int} (h:0≤n∧n<65536):eo (ap 2 n)=n:=by
 obtain ⟨m,rfl⟩:=Int.eq_ofNat_of_zero_le h.1
 rw [UY]
 simp only [eo,List.foldl_cons,List.foldl_nil,jZ]
 omega
theorem Sb {n:Int} (h:0≤n∧n<4294967296):eo (ap 4 n)=n:=by
 obtain ⟨m,rfl⟩:=Int.eq_ofNat_of_zero_le h.1
 rw [Un]
 simp only [eo,List.foldl_cons,List.foldl_nil,jZ]
 omega
theorem qu {n:Int} (h:0≤n∧n<256) (r:Bs):aL 1 (ap 1 n++r) 0=n∧aA 1 (ap 1 n++r) 0=r∧aB 1 (ap 1 n++r) 0=0:=by
 have h2:=zo (x:=ap 1 n) (r:=r) (n:=1) rfl (by rw [aX];rfl)
 exact ⟨by rw [BV (by rw [aX];rfl),Uo h],h2.2.1,h2.2.2⟩
theorem H3 {n:Int} (h:0≤n∧n<65536) (r:Bs):aL 2 (ap 2 n++r) 0=n∧aA 2 (ap 2 n++r) 0=r∧aB 2 (ap 2 n++r) 0=0:=by
 have h2:=zo (x:=ap 2 n) (r:=r) (n:=2) rfl (by rw [aX];rfl)
 exact ⟨by rw [BV (by rw [aX];rfl),Up h],h2.2.1,h2.2.2⟩
theorem UZ {n:Int} (h:0≤n∧n<4294967296) (r:Bs):aL 4 (ap 4 n++r) 0=n∧aA 4 (ap 4 n++r) 0=r∧aB 4 (ap 4 n++r) 0=0:=by
 have h2:=zo (x:=ap 4 n) (r:=r) (n:=4) rfl (by rw [aX];rfl)
 exact ⟨by rw [BV (by rw [aX];rfl),Sb h],h2.2.1,h2.2.2⟩
theorem Sc {a n:Int} (ha:0≤a∧a<4294967296) (hn:kD n) (h:hJ a n=a):a.toNat%2^(32-n).toNat=0:=by
 obtain ⟨m,rfl⟩:=Int.eq_ofNat_of_zero_le ha.1
 obtain ⟨h0,h1⟩:=hn
 have hk:(32-n).toNat≤32:=by omega
 unfold hJ CM at h
 generalize (32-n).toNat=k at hk h ⊢
 have hy:(BitVec.ofInt (IntKind.bits .u32) (4294967296-2^k)).toNat%2^k=0:=by
  have hpos:(2:Nat)^k≤2^32:=Nat.pow_le_pow_right (by decide) hk
  have hd:(2:Nat)^k∣2^32:=Nat.pow_dvd_pow 2 hk
  have e:(4294967296-2^k:Int)=((2^32-2^k:Nat):Int):=by rw [Int.ofNat_sub hpos];simp
  rw [e,BitVec.ofInt_natCast,BitVec.toNat_ofNat]
  have h1:2^k∣(2^32-2^k:Nat):=Nat.dvd_sub hd (Nat.dvd_refl _)
  exact Nat.mod_eq_zero_of_dvd ((Nat.dvd_mod_iff hd).2 h1)
 have hv:(m:Int)=((BitVec.toNat (BitVec.ofInt (IntKind.bits .u32) (m:Int)&&&BitVec.ofInt (IntKind.bits .u32) (4294967296-2^k)):Nat):Int):=by
  have hlt:=(BitVec.ofInt (IntKind.bits .u32) (m:Int)&&&BitVec.ofInt (IntKind.bits .u32) (4294967296-2^k)).isLt
  rw [←Dq (n:=((BitVec.toNat (BitVec.ofInt (IntKind.bits .u32) (m:Int)&&&BitVec.ofInt (IntKind.bits .u32) (4294967296-2^k)):Nat):Int)) (by omega) (by have:(2:Nat)^(IntKind.bits .u32)=4294967296:=rfl;omega)]
  exact h.symm
 have hm:m=BitVec.toNat (BitVec.ofInt (IntKind.bits .u32) (m:Int)&&&BitVec.ofInt (IntKind.bits .u32) (4294967296-2^k)):=by omega
 rw [Int.toNat_natCast]
 rw [hm,BitVec.toNat_and,Nat.and_mod_two_pow,hy,Nat.and_zero]
theorem Sd {a n:Int} (ha:0≤a∧a<4294967296) (hn:kD n) (h:hJ a n=a):vy ((ap 4 a).take (lY n))=a:=by
  have hm:=Sc ha hn h
  obtain ⟨m,rfl⟩:=Int.eq_ofNat_of_zero_le ha.1
  obtain ⟨h0,h1⟩:=hn
  rw [Int.toNat_natCast] at hm
  have key:∀j,(32-n).toNat≥32-8*j→m%2^(32-8*j)=0:=fun j hj=>Nat.mod_eq_zero_of_dvd (Nat.dvd_trans (Nat.pow_dvd_pow 2 hj) (Nat.dvd_of_mod_eq_zero hm))
  have hb:m<4294967296:=by omega
  rw [Un]
  unfold lY vy
  have hy:((n+7)/8).toNat=0∨((n+7)/8).toNat=1∨((n+7)/8).toNat=2∨((n+7)/8).toNat=3∨((n+7)/8).toNat=4:=by omega
  rcases hy with e | e | e | e | e<;>rw [e]
  · have:=key 0 (by omega)
    simp only [List.take_zero,List.length_nil,List.nil_append,List.replicate,eo,List.foldl_cons,List.foldl_nil,jZ,Nat.sub_zero]
    omega
  · have:=key 1 (by omega)
    simp only [List.take_succ_cons,List.take_zero,List.length_cons,List.length_nil,List.cons_append,List.nil_append,List.replicate,eo,List.foldl_cons,List.foldl_nil,jZ,Nat.reduceSub,Nat.reduceAdd]
    omega
  · have:=key 2 (by omega)
    simp only [List.take_succ_cons,List.take_zero,List.length_cons,List.length_nil,List.cons_append,List.nil_append,List.replicate,eo,List.foldl_cons,List.foldl_nil,jZ,Nat.reduceSub,Nat.reduceAdd]
    omega
  · have:=key 3 (by omega)
    simp only [List.take_succ_cons,List.take_zero,List.length_cons,List.length_nil,List.cons_append,List.nil_append,List.replicate,eo,List.foldl_cons,List.foldl_nil,jZ,Nat.reduceSub,Nat.reduceAdd]
    omega
  · simp only [List.take_succ_cons,List.take_zero,List.length_cons,List.length_nil,List.cons_append,List.nil_append,List.replicate,eo,List.foldl_cons,List.foldl_nil,jZ,Nat.reduceSub,Nat.reduceAdd]
    omega
theorem Se {a n:Int} (h:uq a n) (r:Bs):bE (gl a n++r) 0=true∧dq (gl a n++r) 0=r∧cB (gl a n++r) 0=a∧cC (gl a n++r) 0=n:=by
 obtain ⟨ha,hm,hc⟩:=h
 have hn:0≤n∧n<256:=⟨hm.1,by have:=hm.2;omega⟩
 have e:gl a n++r=ap 1 n++((ap 4 a).take (lY n)++r):=by rw [BW hn];rfl
 obtain ⟨r1,r2,r3⟩:=qu hn ((ap 4 a).take (lY n)++r)
 have ho:fK n=(((ap 4 a).take (lY n)).length:Int):=by
  unfold fK lY
  rw [List.length_take,aX,Int.tdiv_eq_ediv_of_nonneg (by omega)]
  have:=hm.1;have:=hm.2
  omega
 obtain ⟨t1,t2,t3⟩:=zo (x:=(ap 4 a).take (lY n)) (r:=r) rfl ho
 have g:cO (gl a n++r) 0=true:=by
  unfold cO;rw [e,r3,r1,decide_eq_true (rfl:(0:Int)=0),decide_eq_true hm.2];rfl
 have ok:bE (gl a n++r) 0=true:=by
  unfold bE o6;rw [g,e,r1,r2,r3,t3];rfl
 refine ⟨ok, ?_, ?_, ?_⟩
 ·unfold dq;rw [g,e,r1,r2,r3,t2];rfl
 ·unfold cB nf;rw [ok,e,r1,r2,r3,t1,Sd ha hm hc];exact hc
 ·unfold cC;rw [ok,e,r1];rfl
theorem H4:∀(l:List (Int × Int)) (acc:List (Int × Int)) (k:Nat),(∀p∈l,uq p.1 p.2)→(bB l).length<k→je k (bB l) acc=some (acc++l)
 | [],acc,0,_,h=>absurd h (Nat.not_lt_zero _)
 | [],acc,k+1,_,_=>by
  unfold je
  rw [List.append_nil];rfl
 | p::l,acc,0,_,h=>absurd h (Nat.not_lt_zero _)
 | p::l,acc,k+1,h,hk=>by
  have hp:=Se (h p List.mem_cons_self) (bB l)
  have e:bB (p::l)=gl p.1 p.2++bB l:=rfl
  have hl:(gl p.1 p.2).length≥1:=by unfold gl;simp
  rw [e,List.length_append] at hk
  unfold je
  rw [e,decide_eq_true (show bp (gl p.1 p.2++bB l) 0>0 by rw [vz,List.length_append];omega),hp.1,hp.2.1,hp.2.2.1,hp.2.2.2]
  simp only [cond_true]
  rw [H4 l _ k (fun q hq=>h q (List.mem_cons_of_mem _ hq)) (by omega),List.append_assoc]
  rfl
theorem N7 {l:List (Int × Int)} (h:mn l):yb (bB l)=some l:=by
 unfold yb
 rw [H4 l [] _ h.1 (Nat.lt_succ_self _)];rfl
end
section
open Go.RowKit

theorem Fl {z:Int} (h:0≤z∧z<256):bz z 0=z:=by
 unfold bz
 simp [IntKind.wrap,IntKind.bits,IntKind.signed]
 omega
def DC (r:nC):Prop:=((0≤r.1∧r.1<256)∧kw r.1=false)∧(0≤r.2.1∧r.2.1<256)∧r.2.2.length≤255
theorem H5 {r:nC} (h:DC r):cS r.1 r.2.1 r.2.2=ap 1 r.1++(ap 1 r.2.1++(ap 1 r.2.2.length++r.2.2)):=by
 obtain ⟨⟨h1,h2⟩,h3,h4⟩:=h
 have hl:(0:Int)≤r.2.2.length∧(r.2.2.length:Int)<256:=⟨by omega,by omega⟩
 have hm:er r.1 r.2.2=r.2.2.length:=by unfold er;rw [h2,cond_false,if_neg (by omega)]
 unfold cS yq
 rw [hm,h2,cond_false,Fl h1,Fl h3,Fl hl,BW h1,BW h3,BW hl,Int.toNat_natCast,List.take_length]
 rfl
theorem N8 {r:nC} (h:DC r) (b:Bs):fN (cS r.1 r.2.1 r.2.2++b)=r.1∧iY (cS r.1 r.2.1 r.2.2++b)=r.2.1∧gE (cS r.1 r.2.1 r.2.2++b)=r.2.2∧jW (cS r.1 r.2.1 r.2.2++b)=b∧rE (cS r.1 r.2.1 r.2.2++b)=0:=by
 have e:cS r.1 r.2.1 r.2.2++b=ap 1 r.1++(ap 1 r.2.1++(ap 1 r.2.2.length++(r.2.2++b))):=by rw [H5 h];simp only [List.append_assoc]
 obtain ⟨⟨h1,h2⟩,h3,h4⟩:=h
 have hl:(0:Int)≤r.2.2.length∧(r.2.2.length:Int)<256:=⟨by omega,by omega⟩
 obtain ⟨a1,a2,a3⟩:=qu h1 (ap 1 r.2.1++(ap 1 r.2.2.length++(r.2.2++b)))
 obtain ⟨b1,b2,b3⟩:=qu h3 (ap 1 r.2.2.length++(r.2.2++b))
 obtain ⟨c1,c2,c3⟩:=qu hl (r.2.2++b)
 obtain ⟨d1,d2,d3⟩:=nJ r.2.2 b
 have eC:fN (cS r.1 r.2.1 r.2.2++b)=r.1:=by unfold fN;rw [e,a1]
 have eK:ql (cS r.1 r.2.1 r.2.2++b)=1:=by unfold ql;rw [eC,h2];rfl
 have e2:oA (cS r.1 r.2.1 r.2.2++b)=ap 1 r.2.2.length++(r.2.2++b):=by unfold oA;rw [e,a2,a3,b2]
 have e3:rD (cS r.1 r.2.1 r.2.2++b)=0:=by unfold rD;rw [e,a2,a3,b3]
 have eN:vH (cS r.1 r.2.1 r.2.2++b)=r.2.2.length:=by unfold vH;rw [eK,e2,e3,c1]
 have e4:pU (cS r.1 r.2.1 r.2.2++b)=r.2.2++b:=by unfold pU;rw [eK,e2,e3];exact c2
 have e5:t5 (cS r.1 r.2.1 r.2.2++b)=0:=by unfold t5;rw [eK,e2,e3];exact c3
 refine ⟨eC, ?_, ?_, ?_, ?_⟩
 ·unfold iY;rw [e,a2,a3,b1]
 ·unfold gE;rw [eN,e4,e5,d1]
 ·unfold jW;rw [eN,e4,e5,d2]
 ·unfold rE;rw [eN,e4,e5,d3]
theorem H6:∀(l:List nC) (acc:List ib) (k:Nat),(∀r∈l,DC r)→(dF l).length<k→fc k (dF l) acc=some (acc++l)
 | [],acc,0,_,h=>absurd h (Nat.not_lt_zero _)
 | [],acc,k+1,_,_=>by
  unfold fc
  rw [List.append_nil];rfl
 | r::l,acc,0,_,h=>absurd h (Nat.not_lt_zero _)
 | r::l,acc,k+1,h,hk=>by
  have hr:=h r List.mem_cons_self
  obtain ⟨h1,h2,h3,h4,h5⟩:=N8 hr (dF l)
  have e:dF (r::l)=cS r.1 r.2.1 r.2.2++dF l:=rfl
  have hl:1≤(cS r.1 r.2.1 r.2.2).length:=by rw [H5 hr,List.length_append,aX];exact Nat.le_add_right _ _
  rw [e,List.length_append] at hk
  unfold fc
  rw [e,h1,h2,h3,h4,h5,decide_eq_true (show bp (cS r.1 r.2.1 r.2.2++dF l) 0>0 by rw [vz,List.length_append];omega),decide_eq_true (rfl:(0:Int)=0)]
  simp only [cond_true]
  rw [H6 l _ k (fun q hq=>h q (List.mem_cons_of_mem _ hq)) (by omega),List.append_assoc]
  rfl
theorem N9 {l:List nC} (h:∀r∈l,DC r):qm (dF l)=some l:=by
 unfold qm
 rw [H6 l [] _ h (Nat.lt_succ_self _)];rfl
theorem Oa {z:Int} (h:dY z=true):1≤z∧z≤65535:=by
 unfold dY at h
 simp only [Bool.and_eq_true,decide_eq_true_eq] at h
 exact h
theorem DD:∀(p:List Int) (l:List Int) (r:Bs),(∀z∈p,dY z=true)→l.length+p.length≤16→iv p.length (eZ p++r) l=some (r,l++p)
 | [],l,r,_,_=>by rw [List.append_nil];rfl
 | z::p,l,r,h,hl=>by
  have hz:=Oa (h z List.mem_cons_self)
  have e:eZ (z::p)++r=ap 2 z++(eZ p++r):=by show (ap 2 z++eZ p)++r=_;rw [List.append_assoc]
  obtain ⟨a1,a2,a3⟩:=H3 (n:=z) ⟨by omega,by omega⟩ (eZ p++r)
  simp only [List.length_cons] at hl
  show iv (p.length+1) _ _=_
  unfold iv
  rw [e,a1,a2,a3,decide_eq_true (rfl:(0:Int)=0),decide_eq_false (show ¬z=0 by omega),decide_eq_false (show ¬l.length=16 by omega)]
  simp only [Bool.not_false,Bool.and_self,cond_true]
  rw [DD p (l++ [z]) r (fun y hy=>h y (List.mem_cons_of_mem _ hy)) (by rw [List.length_append];simp;omega),List.append_assoc]
  rfl
theorem Ob {p:List Int} (hl:p.length≤16) (h:p.all dY=true):lU (ew (iV p))=some p:=by
 cases p with
 | nil=>rfl
 | cons z p=>
  have e:ew (iV (z::p))=ap 1 2++(ap 1 ((z::p).length:Int)++(eZ (z::p)++ [])):=by
   unfold ew
   rw [jt,dA,List.append_nil]
   show ap 1 2++ap 1 ((z::p).length:Int)++eZ (z::p)=_
   rw [List.append_assoc]
  have hn:(0:Int)≤((z::p).length:Nat)∧(((z::p).length:Nat):Int)<256:=⟨by omega,by omega⟩
  obtain ⟨a1,a2,a3⟩:=qu (n:=2) ⟨by decide,by decide⟩ (ap 1 ((z::p).length:Int)++(eZ (z::p)++ []))
  obtain ⟨b1,b2,b3⟩:=qu hn (eZ (z::p)++ [])
  have eN:cK (ew (iV (z::p)))=((z::p).length:Nat):=by unfold cK;rw [e,a2,a3,b1]
  have eB:jp (ew (iV (z::p)))=eZ (z::p)++ []:=by unfold jp;rw [e,a2,a3,b2]
  have eH:lF (ew (iV (z::p)))=true:=by
   unfold lF tp
   rw [eN,e,a1,decide_eq_false (show ¬(((z::p).length:Nat):Int)=0 by simp only [List.length_cons];omega)]
   rfl
  have hlen:2≤(ew (iV (z::p))).length:=by rw [e,List.length_append,List.length_append,aX,aX];simp;omega
  unfold lU iw
  rw [decide_eq_true (show bp (ew (iV (z::p))) 0>0 by rw [vz];omega),eH,eN,eB,Int.toNat_natCast]
  simp only [cond_true]
  rw [DD (z::p) [] [] (List.all_eq_true.1 h) (by simpa using hl)]
  simp only [List.nil_append]
  obtain ⟨q,hq⟩:∃q,(ew (iV (z::p))).length=q+1:=⟨(ew (iV (z::p))).length-1,by omega⟩
  rw [hq]
  rfl
theorem TN {a:AtV} (h:Ll a):∀r∈eS a,DC r:=by
 have b1:∀(fl t k n:Int),(0≤fl∧fl<256)→kw fl=false→(0≤t∧t<256)→k.toNat≤255→DC (fl,t,ap k n):=fun fl t k n h1 h2 h3 h4=>⟨⟨h1,h2⟩,h3,by show (ap k n).length≤255;rw [aX];exact h4⟩
 intro r hr
 unfold eS at hr
 rcases List.mem_append.1 hr with hr | hr
 ·simp only [List.mem_cons,List.not_mem_nil,or_false] at hr
  rcases hr with rfl | rfl | rfl
  ·exact b1 _ _ _ _ (by decide) (by decide) (by decide) (by decide)
  ·exact ⟨⟨by show (0:Int)≤64∧(64:Int)<256;decide,by show kw 64=false;decide⟩,by show (0:Int)≤2∧(2:Int)<256;decide,by have:=(Br h.p.1).2;show (ew (iV a.p)).length≤255;omega⟩
  ·exact b1 _ _ _ _ (by decide) (by decide) (by decide) (by decide)
 ·cases hm:a.hm<;>rw [hm] at hr
  ·cases hr
  ·obtain rfl:=List.mem_singleton.1 hr
   exact b1 _ _ _ _ (by decide) (by decide) (by decide) (by decide)
theorem Fm {k:Int} {n:Int}:cj k (ap k n)=eo (ap k n):=by
 unfold cj
 rw [List.take_of_length_le (by rw [aX];exact Nat.le_refl _)]
def zp (a:AtV):AtS:=⟨a.o,a.h,a.m,a.hm, .vec 1 (iV a.p) .none⟩
theorem Oc {a:AtV} (h:Ll a) (hh:0≤a.h∧a.h<4294967296):gF (dF (eS a))= .inr (zp a):=by
 have hs:qm (dF (eS a))=some (eS a):=N9 (TN h)
 have hp:=Ob h.p.1 h.p.2
 have ho:cj 1 (ap 1 a.o)=a.o:=by rw [Fm,Uo ⟨h.o.1,by have:=h.o.2;omega⟩]
 have hg:cj 4 (ap 4 a.h)=a.h:=by rw [Fm,Sb hh]
 have hA:CX (ew (iV a.p))=a.p:=by unfold CX;rw [hp];rfl
 have hO:rF (ew (iV a.p))=true:=by unfold rF;rw [hp];rfl
 have hL:oC (ew (iV a.p))=iV a.p:=by unfold oC;rw [hA]
 have t1:ct 64 1 (ap 1 a.o)=0:=by
  unfold ct
  rw [if_pos rfl,if_neg (show ¬¬ic 64=64 by decide),if_neg (show ¬¬((ap 1 a.o).length:Int)=1 by rw [aX];decide),ho,if_neg (by have:=h.o.2;omega)]
 have t2:ct 64 2 (ew (iV a.p))=0:=by
  unfold ct
  rw [if_neg (by decide),if_pos rfl,if_neg (show ¬¬ic 64=64 by decide),hO];rfl
 have t3:ct 64 3 (ap 4 a.h)=0:=by
  unfold ct
  rw [if_neg (by decide),if_neg (by decide),if_pos rfl,if_neg (show ¬¬ic 64=64 by decide),if_neg (show ¬¬((ap 4 a.h).length:Int)=4 by rw [aX];decide),hg,h.h];rfl
 have t4:ct 128 4 (ap 4 a.m)=0:=by
  unfold ct
  rw [if_neg (by decide),if_neg (by decide),if_neg (by decide),if_pos rfl,if_neg (show ¬¬ic 128=128 by decide),if_neg (show ¬¬((ap 4 a.m).length:Int)=4 by rw [aX];decide)]
 have p1:∀x:AtS,x.put 1 (ap 1 a.o)={x with o:=a.o}:=fun x=>by unfold AtS.put;rw [if_pos rfl,ho]
 have p2:∀x:AtS,x.put 2 (ew (iV a.p))={x with x:= .vec 1 (iV a.p) .none}:=fun x=>by unfold AtS.put;rw [if_neg (by decide),if_pos rfl,hL]
 have p3:∀x:AtS,x.put 3 (ap 4 a.h)={x with h:=a.h}:=fun x=>by unfold AtS.put;rw [if_neg (by decide),if_neg (by decide),if_pos rfl,hg]
 have hO2:jm (dF (eS a))=true:=by unfold jm;rw [hs];rfl
 have hA2:gg (dF (eS a))=eS a:=by unfold gg;rw [hs];rfl
 unfold gF
 rw [hO2,hA2,cond_true]
 unfold eS
 cases hm:a.hm
 ·simp only [cond_false,List.append_nil]
  unfold ei
  rw [t1,if_pos rfl,p1]
  simp only [cond_false]
  unfold ei
  rw [show ix (fun _=>false) (Int.toNat 1) (Int.toNat 2)=false from rfl,t2,if_pos rfl,p2]
  simp only [cond_false]
  unfold ei
  rw [show ix (ix (fun _=>false) (Int.toNat 1)) (Int.toNat 2) (Int.toNat 3)=false from rfl,t3,if_pos rfl,p3]
  simp only [cond_false]
  unfold ei
  show ml _ _=_
  unfold ml zp tr
  rw [hm,h.m0 hm]
  rfl
 ·have hmm:=h.m hm
  have hq:cj 4 (ap 4 a.m)=a.m:=by rw [Fm,Sb ⟨hmm.1,by omega⟩]
  have p4:∀x:AtS,x.put 4 (ap 4 a.m)={x with m:=a.m,hm:=true}:=fun x=>by unfold AtS.put;rw [if_neg (by decide),if_neg (by decide),if_neg (by decide),if_pos rfl,hq]
  simp only [cond_true,List.cons_append,List.nil_append]
  unfold ei
  rw [t1,if_pos rfl,p1]
  simp only [cond_false]
  unfold ei
  rw [show ix (fun _=>false) (Int.toNat 1) (Int.toNat 2)=false from rfl,t2,if_pos rfl,p2]
  simp only [cond_false]
  unfold ei
  rw [show ix (ix (fun _=>false) (Int.toNat 1)) (Int.toNat 2) (Int.toNat 3)=false from rfl,t3,if_pos rfl,p3]
  simp only [cond_false]
  unfold ei
  rw [show ix (ix (ix (fun _=>false) (Int.toNat 1)) (Int.toNat 2)) (Int.toNat 3) (Int.toNat 4)=false from rfl,t4,if_pos rfl,p4]
  simp only [cond_false]
  unfold ei
  show ml _ _=_
  unfold ml zp
  rw [hm]
  rfl
end
section
open Go.RowKit

def UpV.toS (u:UpV):UpS:=⟨aW u.w,u.a.o,iV u.a.p,u.a.h,u.a.m,u.a.hm,aW u.n⟩
theorem BX {l:List (Int × Int)} (h:mn l):hZ (bB l)=true∧aY (bB l)=aW l:=by
 unfold hZ aY
 rw [N7 h];exact ⟨rfl,rfl⟩
theorem Ky {u:UpV} (hw:(bB u.w).length<65536) (ha:(dG u).length<65536):iy (dV u)=bB u.w∧cE (dV u)=dG u∧eQ (dV u)=bB u.n∧G2 (dV u)=0:=by
 have e:dV u=ap 2 (bB u.w).length++(bB u.w++(ap 2 (dG u).length++(dG u++bB u.n))):=by unfold dV;simp only [List.append_assoc]
 obtain ⟨a1,a2,a3⟩:=H3 (n:=((bB u.w).length:Int)) ⟨by omega,by omega⟩ (bB u.w++(ap 2 (dG u).length++(dG u++bB u.n)))
 obtain ⟨b1,b2,b3⟩:=nJ (bB u.w) (ap 2 (dG u).length++(dG u++bB u.n))
 obtain ⟨c1,c2,c3⟩:=H3 (n:=((dG u).length:Int)) ⟨by omega,by omega⟩ (dG u++bB u.n)
 obtain ⟨d1,d2,d3⟩:=nJ (dG u) (bB u.n)
 obtain ⟨f1,f2,f3⟩:=nJ (bB u.n) []
 rw [List.append_nil] at f1 f3
 have a2' :aA ((2:Nat):Int) (dV u) 0=bB u.w++(ap 2 (dG u).length++(dG u++bB u.n)):=by rw [e];exact a2
 have a3' :aB ((2:Nat):Int) (dV u) 0=0:=by rw [e];exact a3
 have eR2:lP (dV u)=ap 2 (dG u).length++(dG u++bB u.n):=by unfold lP;rw [a2',a3',e,a1,b2]
 have eE2:nr (dV u)=0:=by unfold nr;rw [a2',a3',e,a1,b3]
 have c2' :aA ((2:Nat):Int) (ap 2 (dG u).length++(dG u++bB u.n)) 0=dG u++bB u.n:=c2
 have c3' :aB ((2:Nat):Int) (ap 2 (dG u).length++(dG u++bB u.n)) 0=0:=c3
 have eR4:w7 (dV u)=bB u.n:=by unfold w7;rw [eR2,eE2,c2',c3',c1,d2]
 have eE4:w8 (dV u)=0:=by unfold w8;rw [eR2,eE2,c2',c3',c1,d3]
 refine ⟨?_, ?_, ?_, ?_⟩
 ·unfold iy;rw [a2',a3',e,a1,b1]
 ·unfold cE;rw [eR2,eE2,c2',c3',c1,d1]
 ·unfold eQ;rw [eR4,eE4,vz,f1]
 ·unfold G2;rw [eR4,eE4,vz,f3]
theorem Od {u:UpV} (hu:iD u) (hg:iZ u=true) (hl:(dV u).length≤4077):iz (dV u)= .inr u.toS:=by
  obtain ⟨hw,hn⟩:=BH hu hg
  have hlen:(dV u).length=2+(bB u.w).length+(2+(dG u).length+(bB u.n).length):=by
    unfold dV
    have p2:∀z:Int,(ap 2 z).length=2:=fun z=>aX z
    simp only [List.length_append,p2]
  obtain ⟨e1,e2,e3,e4⟩:=Ky (u:=u) (by omega) (by omega)
  obtain ⟨w1,w2⟩:=BX hw
  obtain ⟨n1,n2⟩:=BX hn
  have nl:(aW u.n).length=u.n.length:=cF _
  unfold iz
  rw [e1,e2,e3,e4,w1,w2,n1,n2,if_neg (by decide)]
  simp only [cond_true]
  unfold iZ at hg
  simp only [Bool.and_eq_true] at hg
  obtain ⟨_,hg⟩:=hg
  cases c:decide ((u.n.length:Int)>0)<;>rw [c] at hg
  · have hn0:u.n.length=0:=by have:=of_decide_eq_false c;omega
    have hA:dG u= []:=by unfold dG;rw [c];rfl
    have ha:u.a=yD:=by simpa using hg
    have hnn:u.n= []:=List.eq_nil_of_length_eq_zero hn0
    rw [if_pos ⟨by rw [hA];rfl,by rw [nl,hn0]⟩]
    unfold UpV.toS
    rw [ha,hnn]
    rfl
  · have hn0:0<u.n.length:=by have:=of_decide_eq_true c;omega
    have hA:dG u=dF (eS u.a):=by
      unfold dG nD;rw [c]
      simp only [cond_true] at hg ⊢
      rw [hg];rfl
    have hG:=vX (show ig u.a=true from hg)
    have hq:=Oc hG ⟨hu.2.2.2.1,hu.2.2.2.2⟩
    have k1:gV (dG u)=true:=by unfold gV;rw [hA,hq]
    have k2:k9 (dG u)=zp u.a:=by unfold k9;rw [hA,hq];rfl
    rw [if_neg (by rw [nl];omega),k1,cond_true,if_pos (by rw [nl];exact hn0)]
    unfold nm nn np nq jJ
    rw [k2]
    rfl
def BY (l:cR):List (Int × Bs):=l.map fun c=>(c.1,bV c.2)
theorem H7 (l:cR):(BY l).map ft=bv l:=by unfold BY bv;rw [List.map_map];rfl
theorem Oe {c:Int} {v:Bs} (h:oH c v) (r:Bs):kr (ja c v++r) 0=c∧dE (ja c v++r) 0=v∧fM (ja c v++r) 0=r∧jl (ja c v++r) 0=0:=by
 obtain ⟨h1,h2,h3⟩:=h
 have e:ja c v++r=ap 1 c++(ap 1 v.length++(v++r)):=by unfold ja;simp only [List.append_assoc]
 obtain ⟨a1,a2,a3⟩:=qu (n:=c) ⟨h1.1,by have:=h1.2;omega⟩ (ap 1 v.length++(v++r))
 obtain ⟨b1,b2,b3⟩:=qu (n:=(v.length:Int)) ⟨by omega,by omega⟩ (v++r)
 obtain ⟨d1,d2,d3⟩:=nJ v r
 have eN:yf (ja c v++r) 0=v.length:=by unfold yf;rw [e,a2,a3,b1]
 refine ⟨?_, ?_, ?_, ?_⟩
 ·unfold kr;rw [e,a1]
 ·unfold dE;rw [eN,e,a2,a3,b2,b3,d1]
 ·unfold fM;rw [eN,e,a2,a3,b2,b3,d2]
 ·unfold jl;rw [eN,e,a2,a3,b2,b3,d3]
theorem H8:∀(l:cR) (acc:List (Int × Bs)) (k:Nat),(∀c∈l,oH c.1 (bV c.2))→(cf l).length<k→eW k (cf l) 0 acc=([],0,acc++BY l)
 | [],acc,0,_,h=>absurd h (Nat.not_lt_zero _)
 | [],acc,k+1,_,_=>by
  unfold eW
  rw [show BY []= [] from rfl,List.append_nil];rfl
 | c::l,acc,0,_,h=>absurd h (Nat.not_lt_zero _)
 | c::l,acc,k+1,h,hk=>by
  have hc:=h c List.mem_cons_self
  obtain ⟨h1,h2,h3,h4⟩:=Oe hc (cf l)
  have e:cf (c::l)=ja c.1 (bV c.2)++cf l:=rfl
  have hl:=(sb hc).2
  rw [e,List.length_append] at hk
  unfold eW
  rw [e,h1,h2,h3,h4,decide_eq_true (show bp (ja c.1 (bV c.2)++cf l) 0>0 by rw [vz,List.length_append];omega)]
  simp only [cond_true]
  rw [H8 l _ k (fun q hq=>h q (List.mem_cons_of_mem _ hq)) (by omega),List.append_assoc]
  rfl
theorem Of {l:cR} (h:∀c∈l,oH c.1 (bV c.2)):CP (cf l) 0=([],0,BY l):=by
 unfold CP
 rw [H8 l [] _ h (Nat.lt_succ_self _)];rfl
theorem Og {l:cR} (h:∀c∈l,oH c.1 (bV c.2)) (hn:bN l≤200):o7 (ap 1 2++(ap 1 (bN l)++cf l)) 0= .ok (BY l):=by
 have hv:=jL l
 obtain ⟨a1,a2,a3⟩:=qu (n:=2) ⟨by decide,by decide⟩ (ap 1 (bN l)++cf l)
 obtain ⟨b1,b2,b3⟩:=qu (n:=(bN l:Int)) ⟨by omega,by omega⟩ (cf l)
 obtain ⟨d1,d2,d3⟩:=nJ (cf l) []
 rw [List.append_nil,hv] at d1 d2 d3
 generalize hb:ap 1 2++(ap 1 (bN l)++cf l)=b at*
 have eN:yf b 0=bN l:=by unfold yf;rw [a2,a3,b1]
 have e1:kr b 0=2:=a1
 have e2:dE b 0=cf l:=by unfold dE;rw [eN,a2,a3,b2,b3,d1]
 have e3:fM b 0= []:=by unfold fM;rw [eN,a2,a3,b2,b3,d2]
 have e4:jl b 0=0:=by unfold jl;rw [eN,a2,a3,b2,b3,d3]
 have hl:2≤b.length:=by rw [←hb,List.length_append,List.length_append,aX,aX];simp;omega
 have hcp:=Of h
 obtain ⟨q,hq⟩:∃q,b.length=q+1:=⟨b.length-1,by omega⟩
 unfold o7
 rw [hq]
 unfold ku
 rw [decide_eq_true (show bp b 0>0 by rw [vz];omega),e1,e2,e3,e4]
 unfold vB lT rz
 rw [hcp]
 rfl
def OpV.toS (o:OpV):OpS:=⟨o.n,o.h,o.i,bv o.l⟩
theorem BZ {o:OpV} (ho:oI o) (hg:jb o=true):kF (dt o) 0=rB o.n o.h o.i (bv o.l)∧10≤(dt o).length:=by
  have G:=sc hg
  obtain ⟨hd,hn⟩:=iR ho.1 G.l
  have hpl:=jL o.l
  obtain ⟨K,r,hb,hK,hp,hr⟩:∃(K:Int) (r:Bs),dt o=ap 1 4++(ap 2 o.n++(ap 2 o.h++(ap 4 o.i++(ap 1 K++r))))∧K=bp r 0∧o7 r 0= .ok (BY o.l)∧(0≤K∧K<256):=by
    unfold dt
    rw [hg,cond_true]
    cases c:decide (o.l.length=0)
    · refine ⟨(bN o.l:Int)+2,ap 1 2++(ap 1 (bN o.l)++cf o.l), ?_, ?_,Og hd hn,by omega,by omega⟩
      · simp only [cond_false,HY,DA,List.append_assoc]
      · rw [vz,List.length_append,List.length_append,aX,aX,hpl]
        simp;omega
    · have h0:o.l= []:=List.eq_nil_of_length_eq_zero (of_decide_eq_true c)
      refine ⟨0, [], ?_,rfl, ?_,by decide⟩
      · simp only [cond_true,DA,List.append_assoc,List.append_nil]
      · rw [h0];rfl
  have hh:0≤o.h∧o.h<65536:=by rcases G.h with h | h<;>omega
  obtain ⟨a1,a2,a3⟩:=qu (n:=4) ⟨by decide,by decide⟩ (ap 2 o.n++(ap 2 o.h++(ap 4 o.i++(ap 1 K++r))))
  obtain ⟨b1,b2,b3⟩:=H3 (n:=o.n) ⟨by have:=G.n.1;omega,by have:=G.n.2;omega⟩ (ap 2 o.h++(ap 4 o.i++(ap 1 K++r)))
  obtain ⟨c1,c2,c3⟩:=H3 hh (ap 4 o.i++(ap 1 K++r))
  obtain ⟨d1,d2,d3⟩:=UZ ho.2 (ap 1 K++r)
  obtain ⟨e1,e2,e3⟩:=qu hr r
  have hlen:10≤(dt o).length:=by
    rw [hb]
    simp only [List.length_append,aX]
    have:(1:Int).toNat=1:=rfl
    have:(2:Int).toNat=2:=rfl
    have:(4:Int).toNat=4:=rfl
    omega
  refine ⟨?_,hlen⟩
  unfold kF zb
  rw [if_neg (by omega),hb,a1,a2,a3,b1,b2,b3,c1,c2,c3,d1,d2,d3,e1,e2,e3,if_neg (by decide)]
  unfold fR
  rw [if_neg (by have:=G.n.1;omega),if_neg (by omega),if_neg (fun h=>h (by rcases G.h with h | h;exact .inl h;exact .inr ⟨h.1,h.2⟩)),if_neg G.i,if_neg (fun h=>h hK)]
  have k1:gf r 0=true:=by unfold gf;rw [hp]
  have k2:fu r 0=bv o.l:=by unfold fu;rw [hp];exact H7 o.l
  rw [k1,k2];rfl
theorem Oh {o:OpV} (ho:oI o) (hg:jb o=true):qo (dt o) 0= .inr o.toS:=by
 unfold qo
 rw [(BZ ho hg).1]
 rfl
theorem Oi {f:FtV} (hg:jY f=true):ia (fa f)=true∧vR (fa f)=f.c∧vS (fa f)=f.s∧vT (fa f)=bV f.d∧2≤(fa f).length:=by
 have e:fa f=bT f.c::bT f.s::bV f.d:=by unfold fa;rw [hg];rfl
 unfold jY at hg
 simp only [Bool.and_eq_true,decide_eq_true_eq] at hg
 obtain ⟨h1,h2,h3,h4,h5⟩:=hg
 rw [e]
 refine ⟨?_,rfl,rfl,rfl,by simp⟩
 unfold ia
 rw [decide_eq_true (show 2≤(bT f.c::bT f.s::bV f.d).length by simp),decide_eq_true (show ((bT f.c::bT f.s::bV f.d).drop 2).length≤4075 by show (bV f.d).length≤4075;rw [iE];exact h5)]
 show (true&&(true&& !decide (f.c=0)))=true
 rw [decide_eq_false (show ¬f.c=0 by omega)];rfl
end
section
open Go.RowKit

def fw (n k:Int) (r:Bs):Bs:=dH++(ap 2 n++(ap 1 k++r))
theorem mG:dH.length=16:=by unfold dH;rw [iE];rfl
theorem sj (n k:Int) (r:Bs):(fw n k r).length=19+r.length:=by
 unfold fw
 simp only [List.length_append,aX,mG]
 have:(1:Int).toNat=1:=rfl
 have:(2:Int).toNat=2:=rfl
 omega
theorem yI (n k:Int) (r:Bs):(fw n k r).drop 16=ap 2 n++(ap 1 k++r):=by
 unfold fw
 rw [List.drop_append_of_le_length (by rw [mG];omega),List.drop_of_length_le (by rw [mG];omega)];rfl
theorem yJ (n k:Int) (r:Bs):(fw n k r).drop 18=ap 1 k++r:=by
 have h:(fw n k r).drop 18=((fw n k r).drop 16).drop 2:=by rw [List.drop_drop]
 rw [h,yI,List.drop_append_of_le_length (by rw [aX];decide),List.drop_of_length_le (by rw [aX];decide)];rfl
theorem H9 (n:Int) {k:Int} (hk:0≤k∧k<256) (r:Bs):(fw n k r).drop 19=r:=by
 have h:(fw n k r).drop 19=((fw n k r).drop 18).drop 1:=by rw [List.drop_drop]
 rw [h,yJ,BW hk];rfl
theorem Sf (n k:Int) (r:Bs):iA (fw n k r)=true:=by
 unfold iA fw
 rw [List.take_append_of_le_length (by rw [mG];omega),List.take_of_length_le (by rw [mG];omega)]
 decide
theorem LT {n k:Int} (hn:19≤n∧n≤4096) (hk:1≤k∧k≤4) (hl:uj k≤n) (h4:k=4→n=19) (r:Bs):jq (fw n k r)= .inr (n,k):=by
 have e1:lG (fw n k r)=n:=by
  unfold lG cj
  rw [yI,List.take_append_of_le_length (by rw [aX];decide),List.take_of_length_le (by rw [aX];decide),Up ⟨by omega,by omega⟩]
 have e2:pd (fw n k r)=k:=by
  unfold pd
  rw [yJ,BW ⟨by omega,by omega⟩];rfl
 unfold jq
 rw [if_neg (by rw [sj];omega),Sf,e1,e2,cond_true,if_neg (by omega),if_neg (by omega),if_neg (by rintro (h | ⟨h,h2⟩);omega;exact h2 (h4 h))]
structure Ia (m:MsV) (n:Int) (v:Bs):Prop where
 b:bq m=fw n m.k v
 nv:n=19+(v.length:Int)
 hn:19≤n∧n≤4096
 hk:1≤m.k∧m.k≤4
 hl:uj m.k≤n
 h4:m.k=4→n=19
theorem Sg {m:MsV} (hm:lg m) (hg:fb m=true):Ia m (19+((cW m).length:Int)) (cW m)∧eY (bq m) 0= .inr m.toS:=by
  have hb:bq m=fw (19+((cW m).length:Int)) m.k (cW m):=by unfold bq H2 fw;rw [hg,cond_true];simp only [List.append_assoc]
  have hle:=(si hm).2
  have main:∀(hk:1≤m.k∧m.k≤4) (hl:uj m.k≤19+((cW m).length:Int)) (h4:m.k=4→(19+((cW m).length:Int))=19),
      (if m.k=1 then (bif iB (cW m) 0 then (.inr {m0 with k:=m.k,op:=qp (cW m) 0}:(Int × Int × Bs) ⊕ MsgS) else .inl (2,up (cW m) 0,oE (cW m) 0))
        else if m.k=2 then (bif jg (cW m) then .inr {m0 with k:=m.k,u:=lH (cW m)} else .inl (3,rL (cW m),nx (cW m)))
        else if m.k=3 then (bif ia (cW m) then .inr {m0 with k:=m.k,c:=vR (cW m),s:=vS (cW m),d:=vT (cW m)} else .inl (1,2,oh (bq m)))
        else .inr {m0 with k:=m.k})= .inr m.toS→Ia m (19+((cW m).length:Int)) (cW m)∧eY (bq m) 0= .inr m.toS:=by
    intro hk hl h4 hmain
    refine ⟨⟨hb,rfl,⟨by omega,by omega⟩,hk,hl,h4⟩, ?_⟩
    have hh:jq (bq m)= .inr (19+((cW m).length:Int),m.k):=by rw [hb];exact LT ⟨by omega,by omega⟩ hk hl h4 _
    have g1:eR (bq m)=true:=by unfold eR;rw [hh]
    have g2:tz (bq m)=19+((cW m).length:Int):=by unfold tz;rw [hh]
    have g3:dQ (bq m)=m.k:=by unfold dQ;rw [hh]
    have g4:(bq m).drop 19=cW m:=by rw [hb];exact H9 _ ⟨by omega,by omega⟩ _
    have g5:(bq m).length=19+(cW m).length:=by rw [hb];exact sj _ _ _
    unfold eY
    rw [g1,g2,g3,g4,g5,cond_true,if_neg (by omega),if_neg (fun h=>h (by omega))]
    exact hmain
  unfold fb at hg
  have hc:cW m=bif decide (m.k=1) then dt m.op else bif decide (m.k=2) then gm m.u else bif decide (m.k=3) then fa m.f else []:=rfl
  cases c1:decide (m.k=1)<;>rw [c1] at hg hc
  · cases c2:decide (m.k=2)<;>rw [c2] at hg hc
    · cases c3:decide (m.k=3)<;>rw [c3] at hg hc
      · cases c4:decide (m.k=4)<;>rw [c4] at hg
        · cases hg
        · have k4:=of_decide_eq_true c4
          have em:m=sg:=of_decide_eq_true hg
          simp only [cond_false] at hc
          have hl0:(cW m).length=0:=by rw [hc];rfl
          refine main ⟨by omega,by omega⟩ ?_ (fun _=>by omega) ?_
          · rw [k4,hl0];decide
          · rw [if_neg (by omega),if_neg (by omega),if_neg (by omega),em];rfl
      · have k3:=of_decide_eq_true c3
        simp only [cond_true,cond_false,Bool.and_eq_true,decide_eq_true_eq] at hg hc
        obtain ⟨hpos,em⟩:=hg
        have hgf:jY m.f=true:=by
          cases h:jY m.f
          · have:fa m.f= []:=by unfold fa;rw [h];rfl
            rw [this] at hpos;simp at hpos
          · rfl
        obtain ⟨n1,n2,n3,n4,n5⟩:=Oi hgf
        refine main ⟨by omega,by omega⟩ ?_ (fun h=>by omega) ?_
        · rw [k3,hc];show (21:Int)≤_;omega
        · rw [if_neg (by omega),if_neg (by omega),if_pos k3,hc,n1,n2,n3,n4,cond_true]
          have e:m.toS={m0 with k:=m.k,c:=m.f.c,s:=m.f.s,d:=bV m.f.d}:=by rw [em];rfl
          rw [e]
    · have k2:=of_decide_eq_true c2
      simp only [cond_true,cond_false,Bool.and_eq_true,decide_eq_true_eq] at hg hc
      obtain ⟨hpos,em⟩:=hg
      obtain ⟨hgu,hlu,hbu⟩:iZ m.u=true∧(dV m.u).length≤4077∧gm m.u=dV m.u:=by
        unfold gm at hpos ⊢
        cases h:iZ m.u<;>rw [h] at hpos
        · simp at hpos
        · cases h2:decide (((dV m.u).length:Int)≤4077)<;>rw [h2] at hpos
          · simp at hpos
          · exact ⟨rfl,by have:=of_decide_eq_true h2;omega,rfl⟩
      have hub:=Od hm.2.1 hgu hlu
      have h4:4≤(dV m.u).length:=by
        unfold dV
        simp only [List.length_append,aX]
        have:(2:Int).toNat=2:=rfl
        omega
      refine main ⟨by omega,by omega⟩ ?_ (fun h=>by omega) ?_
      · rw [k2,hc,hbu];show (23:Int)≤_;omega
      · have o1:jg (cW m)=true:=by unfold jg;rw [hc,hbu,hub]
        have o2:lH (cW m)=m.u.toS:=by unfold lH;rw [hc,hbu,hub]
        rw [if_neg (by omega),if_pos k2,o1,o2,cond_true]
        have e:m.toS={m0 with k:=m.k,u:=m.u.toS}:=by rw [em];rfl
        rw [e]
  · have k1:=of_decide_eq_true c1
    simp only [cond_true,Bool.and_eq_true,decide_eq_true_eq] at hg hc
    obtain ⟨hpos,em⟩:=hg
    have hgo:jb m.op=true:=by
      cases h:jb m.op
      · have:dt m.op= []:=by unfold dt;rw [h];rfl
        rw [this] at hpos;simp at hpos
      · rfl
    have hob:=Oh hm.1 hgo
    have hl:=(BZ hm.1 hgo).2
    refine main ⟨by omega,by omega⟩ ?_ (fun h=>by omega) ?_
    · rw [k1,hc];show (29:Int)≤_;omega
    · have o1:iB (cW m) 0=true:=by unfold iB;rw [hc,hob]
      have o2:qp (cW m) 0=m.op.toS:=by unfold qp;rw [hc,hob]
      rw [if_pos k1,o1,o2,cond_true]
      have e:m.toS={m0 with k:=m.k,op:=m.op.toS}:=by rw [em];rfl
      rw [e]
theorem Ib {m:MsV} {n:Int} {v:Bs} (h:Ia m n v) (r:Bs) (hr:(19+(r.length:Int))≠n):∃d,eY (fw n m.k r) 0= .inl (1,2,d):=by
 have hh:=LT h.hn h.hk h.hl h.h4 r
 have g1:eR (fw n m.k r)=true:=by unfold eR;rw [hh]
 have g2:tz (fw n m.k r)=n:=by unfold tz;rw [hh]
 refine ⟨oh (fw n m.k r), ?_⟩
 unfold eY
 rw [g1,g2,cond_true,sj,if_neg (by omega),if_pos (by omega)]
theorem Oj {m:MsV} {n:Int} {v:Bs} (h:Ia m n v) (x:List TV):∃d,eY (bq m++ [x]) 0= .inl (1,2,d):=by
 have e:bq m++ [x]=fw n m.k (v++ [x]):=by rw [h.b];unfold fw;simp only [List.append_assoc]
 rw [e]
 exact Ib h _ (by have:=h.nv;rw [List.length_append];simp;omega)
theorem Ol {m:MsV} {n:Int} {v:Bs} (h:Ia m n v):∃d,eY ((bq m).take ((bq m).length-1)) 0= .inl (1,2,d):=by
  have hl:(bq m).length=19+v.length:=by rw [h.b];exact sj _ _ _
  rcases Nat.eq_zero_or_pos v.length with h0 | h0
  · have hlen:((bq m).take ((bq m).length-1)).length=18:=by rw [List.length_take,hl];omega
    have hh:jq ((bq m).take ((bq m).length-1))= .inr (0,0):=by unfold jq;rw [if_pos (by omega)]
    have g1:eR ((bq m).take ((bq m).length-1))=true:=by unfold eR;rw [hh]
    refine ⟨[], ?_⟩
    unfold eY
    rw [g1,cond_true,if_pos (by omega)]
  · have e:(bq m).take ((bq m).length-1)=fw n m.k (v.take (v.length-1)):=by
      rw [hl,h.b]
      have hk:0≤m.k∧m.k<256:=⟨by have:=h.hk.1;omega,by have:=h.hk.2;omega⟩
      have hh:fw n m.k v=(dH++(ap 2 n++ap 1 m.k))++v:=by unfold fw;simp only [List.append_assoc]
      have hh2:fw n m.k (v.take (v.length-1))=(dH++(ap 2 n++ap 1 m.k))++v.take (v.length-1):=by unfold fw;simp only [List.append_assoc]
      have hl19:(dH++(ap 2 n++ap 1 m.k)).length=19:=by
        simp only [List.length_append,aX,mG];rfl
      rw [hh,hh2,List.take_append,hl19,List.take_of_length_le (by rw [hl19];omega)]
      congr 2
      omega
    rw [e]
    exact Ib h _ (by have:=h.nv;rw [List.length_take];omega)
theorem Om {b:Bs} {j:Nat} {z:Int} (hl:19≤b.length) (hj:j<16) (hz:z≠255):eY (b.set j (bT z)) 0= .inl (1,1, []):=by
 have ha:iA (b.set j (bT z))=false:=by
  unfold iA
  rw [←Bool.not_eq_true,List.all_eq_true]
  intro h
  have hlt:j<((b.set j (bT z)).take 16).length:=by rw [List.length_take,List.length_set];omega
  have:=h _ (List.getElem_mem hlt)
  rw [List.getElem_take,List.getElem_set_self] at this
  exact hz (of_decide_eq_true (show decide (z=255)=true from this))
 have hh:jq (b.set j (bT z))= .inl (1, []):=by
  unfold jq
  rw [if_neg (by rw [List.length_set];omega),ha];rfl
 have g1:eR (b.set j (bT z))=false:=by unfold eR;rw [hh]
 have g2:pf (b.set j (bT z))=1:=by unfold pf;rw [hh]
 have g3:nw (b.set j (bT z))= []:=by unfold nw;rw [hh]
 unfold eY
 rw [g1,g2,g3];rfl
end
section
open Go.RowKit

abbrev TO:=25
end
section
open Go.RowKit

abbrev wh:=32
abbrev xy:=6
def B1 (l:List Int):Prop:=∀z∈l,0≤z∧z<256
def xz (m:MsV):Prop:=(∀c∈m.op.l,B1 c.2)∧(0≤m.op.i∧m.op.i<4294967296)∧(0≤m.u.a.h∧m.u.a.h<4294967296)∧B1 m.f.d
def nK (n:Int) (c:Int × List Int):Int:=IntKind.i64.wrap (n+(c.2.length:Int))
def lQ:Int→cR→Bool
 | _, []=>true
 | n,c::l=>bif decide (nK n c>5000) then false else lQ (nK n c) l
def sk (m:MsV):Bool:=decide (m.op.l.length≤100)&&(decide (m.u.w.length≤2000)&&(decide (m.u.n.length≤2000)&&(decide (m.u.a.p.length≤300)&&(decide (m.f.d.length≤6000)&&lQ 0 m.op.l))))
def Sh (l:List TV) (ok:Bool):Prop:=∃m:MsV,l=m.cells∧xz m∧ok=sk m
def Si (l:List TV) (v:Bs):Prop:=∃m:MsV,l=m.cells∧lg m∧v=bq m
def Sj (l:List TV) (ok:Bool):Prop:=∃m:MsV,l=m.cells∧lg m∧ok=fb m
def B3 (b:Bs) (y:MsgS) (c s:Int) (d:Bs):Prop:=(y=vU b 0∧c=rM b 0)∧s=vV b 0∧d=Bj b 0
def Sk (ok:Bool):aV:=fun _ ys T K=>match ys with
 | [.agg l]=>Sh l ok∧K (.val (.bool ok)) T
 | _=>aN 84 default ys
def Sl (ok:Bool):aV:=fun _ ys T K=>match ys with
 | [.agg l]=>Sj l ok∧K (.val (.bool ok)) T
 | _=>aN 84 default ys
def Sm (v:Bs):aV:=fun _ ys T K=>match ys with
 | [.agg l]=>Si l v∧K (.vec 1 v .none) T
 | _=>aN 84 default ys
def Sn:aV:=fun _ ys T K=>match ys with
 | [.vec 1 b _, .val (.int .i64 0)]=>IsB b∧∀(y:MsgS) (c s:Int) (d:Bs),B3 b y c s d→K (.tup [.agg y.cells,cT c s d]) T
 | _=>aN 84 default ys
def Fo (k n h i o j m c s:Int) (b:Bool) (l w p x d:Bs):List TV:= [.val (.int .i64 k), .val (.int .i64 n), .val (.int .i64 h), .val (.int .u32 i), .vec 2 l .none, .vec 2 w .none, .val (.int .i64 o), .vec 1 p .none, .val (.int .u32 j), .val (.int .i64 m), .val (.bool b), .vec 2 x .none, .val (.int .i64 c), .val (.int .i64 s), .vec 1 d .none]
def DE:List Nat:= [2,3,42,43,44]
def tI (l:Bs) (n j:Int):List TV:= [.val (.bool false), .val (.int .i64 n), .vec 2 l .none, .val (.int .i64 l.length), .val (.int .i64 j)]
def U0 (A:List TV) (l:Bs) (ok:Bool) (K:KX):Prop:=(@Eq Bool (Nat.ble l.length 100) true)∧∀(z:Nat) (n c:Int) (v:Bs),bif ok then K .normal (aR 56 DE (tI l n l.length)) ⟨[.cells A], []⟩ [] else K .ret (aR 56 DE (tI l n z)) ⟨[.cells A, .cells [.val (.int .i64 c), .vec 1 v .none]], []⟩ []
def Uq (A:List TV) (l:Bs) (ok:Bool) (c0:Code):Nat→Option (b6 × Code):=cJ [(0,eU 56 DE [] (tI l 0 0) ⟨[.cells A], []⟩ (U0 A l ok),c0)]
def iF (id:Nat):Code→Option Code
 | .block _ c=>iF id c
 | .seq a b=>match iF id a with
  | some c=>some c
  | none=>iF id b
 | .cond _ a b=>match iF id a with
  | some c=>some c
  | none=>iF id b
 | .loop c=>iF id c
 | .scope c=>iF id c
 | .region i ops d=>bif Nat.beq i id then some (.region i ops d) else none
 | _=>none
def Fp (P:Program) (f:FuncId) (id:Nat):Code:=(iF id (F7 P f)).getD .skip
def So (v:Bs) (ok g:Bool):FuncId→Option aV:=aC [(wh,Sk ok),(TO,Ep),(Rz,Sm v),(Ry,Sl g),(Hf,Sn),(yF,BQ)]
def Ic (v v2 v3:Bs) (W W2:List TV) (e n a:Nat):iW:=bc [(999998, .dead,none),(40, .vec 1 v (.tail 0 e),some fun T=>{T with tails:= [(e,1,false)]}),(43, .vec 1 v2 (.tail 0 (e+1)),some fun T=>{T with tails:= [(e+1,1,false)]}),(49, .row 1 5 0 n,some fun T=>T.newRow W),(55, .ptr 5 a,none),(500055, .val undef,some fun T=>{T with objs:=T.objs.set 5 (.row W2)}),(85, .vec 1 v3 .none,none)]
def Ur (G:aU) (v v2 v3 w2:Bs) (W W2:List TV) (e n a:Nat) (ok g:Bool) (c1:Code):Nat→Option (b6 × Code):=cJ [(1000010,CG Tryz.prog G (So v ok g) (Ic v v2 v3 W W2 e n a) 300 c1 12 1 5 0 n w2,c1)]
theorem TP (k n h i o j m c s:Int) (b:Bool) (l w p x d:Bs) (ok:Bool) (Q:TV→Prop):au Tryz.prog ae br (bc [(999998, .dead,none)]) 300 (Uq (Fo k n h i o j m c s b l w p x d) l ok (aH Tryz.prog wh 0)) 0 wh [.agg (Fo k n h i o j m c s b l w p x d)] aG (fun x _=>Q x)=
 (bif decide ((↑(List.length l):Int)>(100:Int))
 then Q aj
 else (bif decide ((↑(List.length w):Int)>(2000:Int))
 then Q aj
 else (bif decide ((↑(List.length x):Int)>(2000:Int))
 then Q aj
 else (bif decide ((↑(List.length p):Int)>(300:Int))
 then Q aj
 else (bif decide ((↑(List.length d):Int)>(6000:Int))
 then Q aj
 else ((aH Tryz.prog wh (0:Nat)=aH Tryz.prog wh (0:Nat))∧
 (((@Eq (Option Nat) .none .none)∧
 ((@Eq (Nat) 0 0)∧
 ((@Eq (List Nat) [] [])∧
 (True  ∧
 ((@Eq (VT) ⟨[(rf k n h i l w o p j m b x c s d)], []⟩ ⟨[(rf k n h i l w o p j m b x c s d)], []⟩)∧
 ((@Eq (Bool) true true)∧
 (@Eq (List TV) [aj,aD,(eX l),(ak (↑(List.length l):Int)),aD] [aj,aD,(eX l),(ak (↑(List.length l):Int)),aD])))))))∧
 ((@Eq (Bool) (Nat.ble (List.length l) (100:Nat)) true)∧
 (∀z:Nat,(∀n_18:Int,(∀c_19:Int,(∀v:Bs,(bif ok
 then Q ax
 else Q aj))))))))))))):=by kernel_rfl
theorem Id (A:List TV) (l v:Bs) (n c:Int) (j:Nat) (Q:Exit→List TV→VT→List Nat→Nat→Prop):vx Tryz.prog ae br (bc [(999999, .dead,none),(46, .elt [.val (.int .i64 c), .vec 1 v .none],none)]) 300 aK none 0 (cI Tryz.prog wh 0) (aR 56 DE (tI l n j)) (dv (.cells A)) [] (dm DE Q)=
 (bif decide ((↑j:Int)<(↑(List.length l):Int))
 then (bo Tryz.prog (fun _=> .none) (.indexAddr 55 (.tmp 42) (.tmp 44)) [(42,(eX l)),(44,(ak (↑j:Int)))] (.elt [(ak c),(aI v)])∧
 (bif decide (IntKind.wrap IntKind.i64 (n+(↑(List.length v):Int))>(5000:Int))
 then Q .ret (I3 (IntKind.wrap IntKind.i64 (n+(↑(List.length v):Int))) l (↑(List.length l):Int) (↑j:Int)) ⟨[(.cells A),(vu c v)], []⟩ [] 56
 else Q .normal (I3 (IntKind.wrap IntKind.i64 (n+(↑(List.length v):Int))) l (↑(List.length l):Int) (IntKind.wrap IntKind.i64 ((↑j:Int)+(1:Int)))) ⟨[(.cells A),(vu c v)], []⟩ [] 56))
 else Q (.exit 0) (I3 n l (↑(List.length l):Int) (↑j:Int)) ⟨[(.cells A)], []⟩ [] 56):=by kernel_rfl
abbrev LU (k:Int) (n:Int) (h:Int) (i:Int) (l:Bs) (w:Bs) (o:Int) (p:Bs) (j:Int) (m:Int) (b:Bool) (x:Bs) (c:Int) (s:Int) (d:Bs) (y:MsgS) (c_30:Int) (s_31:Int) (d_32:Bs) (y_34:MsgS) (c_35:Int) (s_36:Int) (d_37:Bs) (W:List TV) (e:Nat):VT:=(TX k n h i l w o p j m b x c s d (MsgS.k y) (OpS.n (MsgS.op y)) (OpS.h (MsgS.op y)) (OpS.i (MsgS.op y)) (OpS.l (MsgS.op y)) (UpS.w (MsgS.u y)) (UpS.o (MsgS.u y)) (UpS.x (MsgS.u y)) (UpS.h (MsgS.u y)) (UpS.m (MsgS.u y)) (UpS.hm (MsgS.u y)) (UpS.n (MsgS.u y)) (MsgS.c y) (MsgS.s y) (MsgS.d y) c_30 s_31 d_32 (MsgS.k y_34) (OpS.n (MsgS.op y_34)) (OpS.h (MsgS.op y_34)) (OpS.i (MsgS.op y_34)) (OpS.l (MsgS.op y_34)) (UpS.w (MsgS.u y_34)) (UpS.o (MsgS.u y_34)) (UpS.x (MsgS.u y_34)) (UpS.h (MsgS.u y_34)) (UpS.m (MsgS.u y_34)) (UpS.hm (MsgS.u y_34)) (UpS.n (MsgS.u y_34)) (MsgS.c y_34) (MsgS.s y_34) (MsgS.d y_34) c_35 s_36 d_37 W [((e+(1:Nat)),(1,false))])
abbrev LV (y:MsgS):VO:=(rf (MsgS.k y) (OpS.n (MsgS.op y)) (OpS.h (MsgS.op y)) (OpS.i (MsgS.op y)) (OpS.l (MsgS.op y)) (UpS.w (MsgS.u y)) (UpS.o (MsgS.u y)) (UpS.x (MsgS.u y)) (UpS.h (MsgS.u y)) (UpS.m (MsgS.u y)) (UpS.hm (MsgS.u y)) (UpS.n (MsgS.u y)) (MsgS.c y) (MsgS.s y) (MsgS.d y))
abbrev LW (y:MsgS):List TV:=(CI (MsgS.k y) (OpS.n (MsgS.op y)) (OpS.h (MsgS.op y)) (OpS.i (MsgS.op y)) (OpS.l (MsgS.op y)) (UpS.w (MsgS.u y)) (UpS.o (MsgS.u y)) (UpS.x (MsgS.u y)) (UpS.h (MsgS.u y)) (UpS.m (MsgS.u y)) (UpS.hm (MsgS.u y)) (UpS.n (MsgS.u y)) (MsgS.c y) (MsgS.s y) (MsgS.d y))
abbrev LX (k:Int) (n:Int) (h:Int) (i:Int) (l:Bs) (w:Bs) (o:Int) (p:Bs) (j:Int) (m:Int) (b:Bool) (x:Bs) (c:Int) (s:Int) (d:Bs) (y:MsgS) (c_30:Int) (s_31:Int) (d_32:Bs) (e:Nat):VT:=(TY k n h i l w o p j m b x c s d (MsgS.k y) (OpS.n (MsgS.op y)) (OpS.h (MsgS.op y)) (OpS.i (MsgS.op y)) (OpS.l (MsgS.op y)) (UpS.w (MsgS.u y)) (UpS.o (MsgS.u y)) (UpS.x (MsgS.u y)) (UpS.h (MsgS.u y)) (UpS.m (MsgS.u y)) (UpS.hm (MsgS.u y)) (UpS.n (MsgS.u y)) (MsgS.c y) (MsgS.s y) (MsgS.d y) c_30 s_31 d_32 [((e),(1,false))])
theorem TQ (G:aU) (k n h i o j m c s:Int) (b:Bool) (l w p x d:Bs) (v v2 v3 w2:Bs) (W W2:List TV) (e q a:Nat) (u z:Int) (ok g:Bool):au Tryz.prog G (So v ok g) (Ic v v2 v3 W W2 e q a) 300 (Ur G v v2 v3 w2 W W2 e q a ok g (Fp Tryz.prog xy 10)) 0 xy [.agg (Fo k n h i o j m c s b l w p x d), .val (.int .u64 u), .val (.int .u8 z)] aG gN=
 (Sh (CI k n h i l w o p j m b x c s d) (ok)∧
 (bif !ok
 then True 
 else (Si (CI k n h i l w o p j m b x c s d) (v)∧
 (bif av BinOp.eql (k6 (↑(List.length v):Int) (0:Int))
 then (Sj (CI k n h i l w o p j m b x c s d) (g)∧
 (bif !g
 then True 
 else False))
 else (IsB (v)∧
 (∀y:MsgS,(∀c_30:Int,(∀s_31:Int,(∀d_32:Bs,(B3 (v) (y) (c_30) (s_31) (d_32)→(ba Tryz.prog (G) 0 ⟨[(rf k n h i l w o p j m b x c s d),(LV y),(ep c_30 s_31 d_32)], []⟩ (.call ⟨(.builtin .append), #[(.tmp 38),(.tmp 39)], #[22,22]⟩) [(38,y8),(39,(aI v))] (lL v e) (LX k n h i l w o p j m b x c s d y c_30 s_31 d_32 e)∧
 (ba Tryz.prog (G) 0 (LX k n h i l w o p j m b x c s d y c_30 s_31 d_32 e) (.call ⟨(.builtin .append), #[(.tmp 40),(.tmp 42)], #[22,22]⟩) [(40,(lL v e)),(42,(pQ [[(.val (.int .u8 (z)))]]))] (lL v2 (e+(1:Nat))) (TY k n h i l w o p j m b x c s d (MsgS.k y) (OpS.n (MsgS.op y)) (OpS.h (MsgS.op y)) (OpS.i (MsgS.op y)) (OpS.l (MsgS.op y)) (UpS.w (MsgS.u y)) (UpS.o (MsgS.u y)) (UpS.x (MsgS.u y)) (UpS.h (MsgS.u y)) (UpS.m (MsgS.u y)) (UpS.hm (MsgS.u y)) (UpS.n (MsgS.u y)) (MsgS.c y) (MsgS.s y) (MsgS.d y) c_30 s_31 d_32 [((e+(1:Nat)),(1,false))])∧
 (IsB (v2)∧
 (∀y_34:MsgS,(∀c_35:Int,(∀s_36:Int,(∀d_37:Bs,(B3 (v2) (y_34) (c_35) (s_36) (d_37)→(ba Tryz.prog (G) 0 ⟨[(rf k n h i l w o p j m b x c s d),(LV y),(ep c_30 s_31 d_32),(rf (MsgS.k y_34) (OpS.n (MsgS.op y_34)) (OpS.h (MsgS.op y_34)) (OpS.i (MsgS.op y_34)) (OpS.l (MsgS.op y_34)) (UpS.w (MsgS.u y_34)) (UpS.o (MsgS.u y_34)) (UpS.x (MsgS.u y_34)) (UpS.h (MsgS.u y_34)) (UpS.m (MsgS.u y_34)) (UpS.hm (MsgS.u y_34)) (UpS.n (MsgS.u y_34)) (MsgS.c y_34) (MsgS.s y_34) (MsgS.d y_34)),(ep c_35 s_36 d_37)], [((e+(1:Nat)),(1,false))]⟩ (.call ⟨(.builtin .append), #[(.tmp 47),(.tmp 48)], #[22,22]⟩) [(47,y8),(48,(aI v))] (.row 1 5 0 q) (LU k n h i l w o p j m b x c s d y c_30 s_31 d_32 y_34 c_35 s_36 d_37 W e)∧
 (bo Tryz.prog (G) (.indexAddr 22 (.tmp 50) (.tmp 52)) [(50,(.row 1 5 0 q)),(52,(vw (Int.tmod u (16:Int))))] (.ptr 5 a)∧
 (ba Tryz.prog (G) 0 (LU k n h i l w o p j m b x c s d y c_30 s_31 d_32 y_34 c_35 s_36 d_37 W e) (.store 5 (.tmp 55) (.tmp 54)) [(55,(.ptr 5 a)),(54,(bH (Int.tmod z (255:Int))))] (.val (.tuple #[])) (TX k n h i l w o p j m b x c s d (MsgS.k y) (OpS.n (MsgS.op y)) (OpS.h (MsgS.op y)) (OpS.i (MsgS.op y)) (OpS.l (MsgS.op y)) (UpS.w (MsgS.u y)) (UpS.o (MsgS.u y)) (UpS.x (MsgS.u y)) (UpS.h (MsgS.u y)) (UpS.m (MsgS.u y)) (UpS.hm (MsgS.u y)) (UpS.n (MsgS.u y)) (MsgS.c y) (MsgS.s y) (MsgS.d y) c_30 s_31 d_32 (MsgS.k y_34) (OpS.n (MsgS.op y_34)) (OpS.h (MsgS.op y_34)) (OpS.i (MsgS.op y_34)) (OpS.l (MsgS.op y_34)) (UpS.w (MsgS.u y_34)) (UpS.o (MsgS.u y_34)) (UpS.x (MsgS.u y_34)) (UpS.h (MsgS.u y_34)) (UpS.m (MsgS.u y_34)) (UpS.hm (MsgS.u y_34)) (UpS.n (MsgS.u y_34)) (MsgS.c y_34) (MsgS.s y_34) (MsgS.d y_34) c_35 s_36 d_37 W2 [((e+(1:Nat)),(1,false))])∧
 ((Fp Tryz.prog xy (10:Nat)=Fp Tryz.prog xy (10:Nat))∧
 (((@Eq (Option TV) (.some (.row 1 5 0 q)) (.some (.row 1 5 0 q)))∧
 ((@Eq (Option (List (List TV))) (bif Nat.beq (1:Nat) (1:Nat)&&Nat.ble (((0:Nat)+q)*(1:Nat)) (List.length W2) then (.some (cY (1:Nat) q (List.take (q*(1:Nat)) (List.drop ((0:Nat)*(1:Nat)) W2)))) else .none) (.some (w2)))∧
 (@Eq (Bool) true true)))∧
 (IsB (w2)∧
 (∀y_39:MsgS,(∀c_40:Int,(∀s_41:Int,(∀d_42:Bs,(B3 (w2) (y_39) (c_40) (s_41) (d_42)→(bif av BinOp.neq (k6 c_30 (0:Int))
 then False 
 else (oJ (LW y) (CI k n h i l w o p j m b x c s d)∧
 (∀ok_44:Bool,(lh (LW y) (CI k n h i l w o p j m b x c s d) (ok_44)→(bif !ok_44
 then False 
 else (bif decide ((↑(List.length v):Int)<(19:Int))
 then False 
 else (bif decide ((↑(List.length v):Int)>(4096:Int))
 then False 
 else (bo Tryz.prog (G) (.slice 22 (.tmp 81) .none (.some (.tmp 84)) .none) [(81,(aI v)),(84,(ak (IntKind.wrap IntKind.i64 ((↑(List.length v):Int)-(1:Int)))))] (aI v3)∧
 (IsB (v3)∧
 (∀y_46:MsgS,(∀c_47:Int,(∀s_48:Int,(∀d_49:Bs,(B3 (v3) (y_46) (c_47) (s_48) (d_49)→(bif av BinOp.eql (k6 c_35 (1:Int))
 then (bif av BinOp.eql (k6 s_36 (2:Int))
 then (bif av BinOp.eql (k6 c_40 (1:Int))
 then (bif av BinOp.eql (k6 s_41 (1:Int))
 then (bif av BinOp.eql (k6 c_47 (1:Int))
 then (bif av BinOp.eql (k6 s_48 (2:Int))
 then True 
 else False)
 else False)
 else False)
 else False)
 else False)
 else False)))))))))))))))))))))))))))))))))))))))))))):=by kernel_rfl
end
section
open Go.RowKit

def Ie (m:MsV):List TV:=Fo m.k m.op.n m.op.h m.op.i m.u.a.o m.u.a.h m.u.a.m m.f.c m.f.s m.u.a.hm (bv m.op.l) (aW m.u.w) (iV m.u.a.p) (aW m.u.n) (bV m.f.d)
theorem Kz {l:cR} {j:Nat} (h:j<l.length):(l.take (j+1)).foldl nK 0=nK ((l.take j).foldl nK 0) l[j]:=by
 rw [List.take_add_one,List.getElem?_eq_getElem h,List.foldl_append];rfl
theorem Oo {A:List TV} (hA:∀f g,ar f g A=A) (l:cR):dD Tryz.prog ae (Uq A (bv l) (lQ 0 l) (aH Tryz.prog wh 0)):=bL fun p hp=>by
  obtain rfl:=List.mem_singleton.1 hp
  refine cA fun K hK=> ?_
  obtain ⟨h100,hK⟩:=hK
  have h100:l.length≤100:=by have:=Nat.le_of_ble_eq_true h100;rwa [cG] at this
  refine dS (f:=wh) (id:=0) (by kernel_rfl) 56 DE (fun j:Nat=>l.length-j) (fun j:Nat=>tI (bv l) ((l.take j).foldl nK 0) j) (fun _=>⟨[.cells A], []⟩) (fun j=>j≤l.length∧lQ 0 l=lQ ((l.take j).foldl nK 0) (l.drop j)) 1 0 (fun _ _=>⟨Nat.le_refl _,Nat.le_refl _⟩)
    (fun e vs T=>(e= .normal∧lQ 0 l=true∧∃n:Int,vs=tI (bv l) n (bv l).length∧T=⟨[.cells A], []⟩)∨(e= .ret∧lQ 0 l=false∧∃(z:Nat) (n c:Int) (v:Bs),vs=tI (bv l) n z∧T=⟨[.cells A, .cells [.val (.int .i64 c), .vec 1 v .none]], []⟩)) (fun j hj=> ?_) 0 ⟨Nat.zero_le _,rfl⟩ K ?_
  · obtain ⟨hj,hn⟩:=hj
    by_cases hlt:j<l.length
    · have hat:(bv l)[((j:Nat):Int).toNat]?=some (wb l[j]):=by rw [Int.toNat_natCast];show (l.map _)[j]?=_;rw [List.getElem?_map,List.getElem?_eq_getElem hlt];rfl
      have hs:=Kz hlt
      rw [List.drop_eq_getElem_cons hlt] at hn
      rw [show ∀(n:Int) (c:Int × List Int) (l:cR),lQ n (c::l)=bif decide (nK n c>5000) then false else lQ (nK n c) l from fun _ _ _=>rfl,←hs] at hn
      refine b7 ac aa an ah (Id A (bv l) (bV l[j].2) ((l.take j).foldl nK 0) l[j].1 j _) ?_
      refine aQ (decide_eq_true (by rw [cG];omega)) ⟨nH rfl rfl (by omega) hat, ?_⟩
      rw [iE,show IntKind.i64.wrap ((l.take j).foldl nK 0+((l[j].2.length:Nat):Int))=(l.take (j+1)).foldl nK 0 from hs.symm]
      refine am (fun c1=> ?_) (fun c1=> ?_)
      · rw [c1] at hn
        exact ⟨rfl,rfl, .inr ⟨rfl,hn,j,_,l[j].1,bV l[j].2,rfl,rfl⟩⟩
      · rw [c1] at hn
        refine ⟨rfl,rfl,j+1,⟨hlt,hn⟩,by show l.length-(j+1)<l.length-j;omega, .inr ⟨by simp only [VT.keep,List.take_succ_cons,List.take_zero,List.map_cons,List.map_nil,VO.ren,hA], ?_⟩⟩
        rw [kz hlt (by omega)]
        show ar _ _ _=tI (bv l) ((l.take (j+1)).foldl nK 0) (j+1:Nat)
        simp only [ar,TV.ren,iQ,Tok.ren,tI]
    · have hj2:j=l.length:=by omega
      subst hj2
      rw [List.drop_length] at hn
      refine b7 ac aa an ah (Id A (bv l) [] ((l.take l.length).foldl nK 0) 0 l.length _) ?_
      exact aM (decide_eq_false (by rw [cG];omega)) ⟨rfl,rfl, .inl ⟨rfl,hn,(l.take l.length).foldl nK 0,by simp only [tI,cG],rfl⟩⟩
  · rintro e vs T (⟨rfl,h1,n,rfl,rfl⟩ | ⟨rfl,h1,z,n,c,v,rfl,rfl⟩)
    · have:=hK 0 n 0 [];rw [h1] at this;exact this
    · have:=hK z n c v;rw [h1] at this;exact this
theorem Sp (m:MsV):VCx Tryz.prog ae 0 wh [.agg m.cells] ⟨[], []⟩ fun x T' =>x= .val (.bool (sk m))∧T' =⟨[], []⟩:=by
 refine VCx.keepV (Q:=fun x=>x= .val (.bool (sk m))) (ai ac aa an (Oo (A:=Ie m) (fun f g=>m.ren f g) m.op.l) (TP m.k m.op.n m.op.h m.op.i m.u.a.o m.u.a.h m.u.a.m m.f.c m.f.s m.u.a.hm (bv m.op.l) (aW m.u.w) (iV m.u.a.p) (aW m.u.n) (bV m.f.d) (lQ 0 m.op.l) _) ?_)
 have fin:∀q:Bool,sk m=q→(TV.val (.bool q)).ren (aw 0) (aw 0)= .val (.bool (sk m)):=fun q h=>by rw [h];rfl
 have un:sk m=(decide (m.op.l.length≤100)&&(decide (m.u.w.length≤2000)&&(decide (m.u.n.length≤2000)&&(decide (m.u.a.p.length≤300)&&(decide (m.f.d.length≤6000)&&lQ 0 m.op.l))))):=rfl
 rw [cG,cF,cF,dA,iE]
 refine am (fun c=>fin _ ?_) (fun c1=>am (fun c=>fin _ ?_) (fun c2=>am (fun c=>fin _ ?_) (fun c3=>am (fun c=>fin _ ?_) (fun c4=>am (fun c=>fin _ ?_) (fun c5=> ?_)))))
 ·have:=of_decide_eq_true c
  rw [un,decide_eq_false (show ¬m.op.l.length≤100 by omega)];rfl
 ·have:=of_decide_eq_true c
  rw [un,decide_eq_false (show ¬m.u.w.length≤2000 by omega)];simp
 ·have:=of_decide_eq_true c
  rw [un,decide_eq_false (show ¬m.u.n.length≤2000 by omega)];simp
 ·have:=of_decide_eq_true c
  rw [un,decide_eq_false (show ¬m.u.a.p.length≤300 by omega)];simp
 ·have:=of_decide_eq_true c
  rw [un,decide_eq_false (show ¬m.f.d.length≤6000 by omega)];simp
 ·have d1:=of_decide_eq_false c1
  have d2:=of_decide_eq_false c2
  have d3:=of_decide_eq_false c3
  have d4:=of_decide_eq_false c4
  have d5:=of_decide_eq_false c5
  rw [decide_eq_true (show m.op.l.length≤100 by omega),decide_eq_true (show m.u.w.length≤2000 by omega),decide_eq_true (show m.u.n.length≤2000 by omega),decide_eq_true (show m.u.a.p.length≤300 by omega),decide_eq_true (show m.f.d.length≤6000 by omega)] at un
  simp only [Bool.true_and] at un
  refine ⟨rfl,⟨rfl,rfl,rfl,trivial,rfl,rfl,rfl⟩,Nat.ble_eq_true_of_le (by omega),fun _ _ _ _=> ?_⟩
  cases hd:lQ 0 m.op.l<;>rw [hd] at un
  ·exact fin _ un
  ·exact fin _ un
theorem Sq {m:MsV} (hm:xz m) (h:sk m=true):lg m:=by
 unfold sk at h
 simp only [Bool.and_eq_true,decide_eq_true_eq] at h
 obtain ⟨h1,h2,h3,h4,h5,_⟩:=h
 obtain ⟨a1,a2,a3,a4⟩:=hm
 exact ⟨⟨⟨a1,by omega⟩,a2⟩,⟨by omega,by omega,by omega,a3.1,a3.2⟩,⟨a4,by omega⟩⟩
end
section
open Go Go.RowKit

theorem Oq:Tryz.prog.follows .mixedOrders=true:=by kernel_rfl
theorem KA:fG Tryz.prog=true:=by kernel_rfl
theorem Or:VCx Tryz.prog cL 0 25 [] ⟨[], []⟩ gN:=Er (C:=fun _=>none) Oq KA an (X:=True) (by kernel_rfl) trivial
end
section
open Go.RowKit Go.Deep

end
section
open Go.RowKit Go.Deep

theorem Ss:∀ro ys T K,Sn ro ys T K→VCx Tryz.prog cL ro Hf ys T K:=by
 intro ro ys T K hw
 unfold Sn at hw
 split at hw
 ·rename_i b tok
  obtain ⟨hb,hk⟩:=hw
  refine VCx.loosePure fJ (Qk hb 0) (by simp [bG]) (by simp [ar,TV.ren,hb.ren,Tok.ren]) (fun f h=>Dc 0 hb f h) ?_
  rw [Ql]
  exact hk _ _ _ _ ⟨⟨rfl,rfl⟩,rfl,rfl⟩
 ·exact hw.elim
theorem St (v:Bs) (ok g:Bool):aZ Tryz.prog cL (So v ok g):=aJ fun p hp=>by
 rcases List.mem_cons.1 hp with rfl | hp
 ·intro ro ys T K hw
  replace hw:Sk ok ro ys T K:=hw
  unfold Sk at hw
  split at hw
  ·obtain ⟨⟨m,rfl,_,e⟩,hk⟩:=hw
   rw [e] at hk
   exact VCx.anyG (VCx.liftPure aq (Sp m) (by simp only [ar,TV.ren,m.ren]) (fun _ _=>rfl) hk)
  ·exact hw.elim
 rcases List.mem_cons.1 hp with rfl | hp;exact IX fJ Or
 rcases List.mem_cons.1 hp with rfl | hp
 ·intro ro ys T K hw
  replace hw:Sm v ro ys T K:=hw
  unfold Sm at hw
  split at hw
  ·obtain ⟨⟨m,rfl,hm,e⟩,hk⟩:=hw
   rw [e] at hk
   refine VCx.anyG (VCx.liftPure aq (Sa hm) (by simp only [ar,TV.ren,m.ren]) (fun f h=> ?_) hk)
   have:IsB (bq m):=by
    unfold bq
    cases fb m
    ·exact .nil
    ·exact (Fk (si hm).1 (si hm).2).1
   simp only [TV.ren,this.ren,Tok.ren]
  ·exact hw.elim
 rcases List.mem_cons.1 hp with rfl | hp
 ·intro ro ys T K hw
  replace hw:Sl g ro ys T K:=hw
  unfold Sl at hw
  split at hw
  ·obtain ⟨⟨m,rfl,hm,e⟩,hk⟩:=hw
   rw [e] at hk
   exact VCx.anyG (VCx.liftPure aq (R9 hm) (by simp only [ar,TV.ren,m.ren]) (fun _ _=>rfl) hk)
  ·exact hw.elim
 rcases List.mem_cons.1 hp with rfl | hp;exact Ss
 obtain rfl:=List.mem_singleton.1 hp;exact fun ro ys T K hw=>VCx.anyG (BT ro ys T K hw)
theorem Su (l:List Int) (j:Nat) (z:Int):(bV l).set j (bT z)=bV (l.set j z):=List.map_set.symm
theorem KB {l:List Int} {j:Nat} (z:Int) (hj:j<l.length):bS (bV l).flatten j [.val (.int .u8 z)]=(bV (l.set j z)).flatten:=by
 have e:∀l:List Int,(bV l).flatten=l.map fun y=>TV.val (.int .u8 y):=fun l=>by
  induction l with
  | nil=>rfl
  | cons y l ih=>simp only [bV,List.map_cons,List.flatten_cons] at ih ⊢;rw [ih];rfl
 rw [e,e,List.map_set,bS,List.set_eq_take_append_cons_drop,if_pos (by simpa using hj)]
 simp
theorem Sv {b:Bs} {m:MsgS} (h:eY b 0= .inr m):vU b 0=m∧rM b 0=0:=by unfold vU rM;rw [h];exact ⟨rfl,rfl⟩
theorem B4 {b d:Bs} {c s:Int} (h:eY b 0= .inl (c,s,d)):rM b 0=c∧vV b 0=s:=by unfold rM vV;rw [h];exact ⟨rfl,rfl⟩
theorem UK {m:MsV} (hm:lg m) (hg:fb m=true):BP m m:=fun _=>by
 have key:jK m.op.l:=by
  unfold fb at hg
  cases c1:decide (m.k=1)<;>rw [c1] at hg
  ·have hn:m.op.l= []:=by
    cases c2:decide (m.k=2)<;>rw [c2] at hg
    ·cases c3:decide (m.k=3)<;>rw [c3] at hg
     ·cases c4:decide (m.k=4)<;>rw [c4] at hg
      ·cases hg
      ·rw [show m=sg from of_decide_eq_true hg];rfl
     ·simp only [cond_true,cond_false,Bool.and_eq_true,decide_eq_true_eq] at hg
      rw [hg.2];rfl
    ·simp only [cond_true,cond_false,Bool.and_eq_true,decide_eq_true_eq] at hg
     rw [hg.2];rfl
   rw [hn];exact BU
  ·simp only [cond_true,Bool.and_eq_true] at hg
   exact (Kx hm hg.1 rfl).1
 exact ⟨key,key⟩
theorem Sw {G:aU} {T:VT} {s x:Nat} {l:List (Nat × TV)} {b:Bs} (hs:aS G l (.tmp s)= .vec 1 [] .full) (hx:aS G l (.tmp x)= .vec 1 b .none) (hb:b≠ []) (hl:b.length≤1000000):
  ba Tryz.prog G 0 T (.call ⟨.builtin .append, #[.tmp s, .tmp x], #[22,22]⟩) l (.row 1 T.objs.length 0 b.length) (T.newRow b.flatten):=by
 obtain ⟨inf,i1,i2,i3,i4⟩:=dn
 cases b with
 | nil=>exact absurd rfl hb
 | cons q0 qs=>
  have h:=Ev (P:=Tryz.prog) (G:=G) (ro:=0) (T:=T) (t:=22) (tx:=22) (s:= .tmp s) (x:= .tmp x) (l:=l) (inf:=inf) (q0:=q0) (qs:=qs) (tok:= .none) Tryz.underlying22 i1 i4 (by rw [i2];rfl) rfl (by kernel_rfl) (by rw [i2];exact hs) (by rw [i2];exact hx) (by rw [i3];omega)
  rw [i2] at h
  exact h
theorem Sx {G:aU} {s i id n j:Nat} {l:List (Nat × TV)} {k:IntKind} (hs:aS G l (.tmp s)= .row 1 id 0 n) (hi:aS G l (.tmp i)= .val (.int k (j:Int))) (hj:j<n):bo Tryz.prog G (.indexAddr 22 (.tmp s) (.tmp i)) l (.ptr id j):=by
 obtain ⟨inf,i1,i2,i3,i4⟩:=dn
 have h:=Ap (P:=Tryz.prog) (G:=G) (t:=22) (x:= .tmp s) (i:= .tmp i) (l:=l) (inf:=inf) (id:=id) (off:=0) (n:=n) (k:=k) (z:=(j:Int)) Tryz.underlying22 i1 (by rw [i2];exact hs) hi (by omega) (by omega)
 rw [i2,Int.toNat_natCast,Nat.zero_mul,Nat.zero_add,Nat.mul_one] at h
 exact h
theorem TR {G:aU} {T:VT} {a x id off:Nat} {l:List (Nat × TV)} {cs:List TV} {z:Int} (ha:aS G l (.tmp a)= .ptr id off) (hx:aS G l (.tmp x)= .val (.int .u8 z)) (ho:T.objs[id]?=some (.row cs)) (hle:off+1≤cs.length):
  ba Tryz.prog G 0 T (.store 5 (.tmp a) (.tmp x)) l (.val undef) {T with objs:=T.objs.set id (.row (bS cs off [.val (.int .u8 z)]))}:=by
 obtain ⟨inf,i1,i2,i3,i4⟩:=dn
 exact Aq (inf:=inf) i1 ha (by rw [hx];rfl) ho (by rw [i2];rfl) hle rfl (Nat.zero_le _)
theorem TS {G:aU} {s i n:Nat} {l:List (Nat × TV)} {b:Bs} {k:IntKind} (hs:aS G l (.tmp s)= .vec 1 b .none) (hi:aS G l (.tmp i)= .val (.int k (n:Int))) (hn:n≤b.length):bo Tryz.prog G (.slice 22 (.tmp s) none (some (.tmp i)) none) l (.vec 1 (b.take n) .none):=by
 obtain ⟨inf,i1,i2,_,_⟩:=dn
 have h:=An (inf:=inf) (P:=Tryz.prog) (G:=G) (t:=22) (x:= .tmp s) (i:= .tmp i) (l:=l) (es:=b) (tok:= .none) (z:=(n:Int)) Tryz.underlying22 i1 (by rw [i2];exact hs) hi (by omega) (by simpa using hn)
 rw [i2,Int.toNat_natCast] at h
 exact h
set_option maxHeartbeats 1000000 in
theorem Sy {m:MsV} (hm:xz m) {u z:Int} (hu:0≤u) (hz:0≤z∧z<256):VCx Tryz.prog cL 0 xy [.agg m.cells, .val (.int .u64 u), .val (.int .u8 z)] ⟨[], []⟩ gN:=by
  obtain ⟨inf,i1,i2,i3,i4⟩:=dn
  obtain ⟨j,hj⟩:∃j:Nat,(Int.tmod u 16)=(j:Int):=⟨(Int.tmod u 16).toNat,by rw [Int.tmod_eq_emod_of_nonneg hu];omega⟩
  have hj16:j<16:=by rw [Int.tmod_eq_emod_of_nonneg hu] at hj;omega
  obtain ⟨y,hy⟩:∃y,y=Int.tmod z 255:=⟨_,rfl⟩
  have hy2:0≤y∧y<255:=by rw [hy,Int.tmod_eq_emod_of_nonneg hz.1];omega
  refine ai ac aa (St (bq m) (sk m) (fb m)) (L:=Ur cL (bq m) (bq m++ [bT z]) ((bq m).take ((bq m).length-1)) ((bq m).set j (bT y)) (bq m).flatten (bS (bq m).flatten j [.val (.int .u8 y)]) (0+(bq m).length) (bq m).length j (sk m) (fb m) (Fp Tryz.prog xy 10)) (bL fun p hp=>by
    obtain rfl:=List.mem_singleton.1 hp
    exact Eu ac aa (St _ _ _)) (TQ cL m.k m.op.n m.op.h m.op.i m.u.a.o m.u.a.h m.u.a.m m.f.c m.f.s m.u.a.hm (bv m.op.l) (aW m.u.w) (iV m.u.a.p) (aW m.u.n) (bV m.f.d) _ _ _ _ _ _ _ _ _ u z _ _) ?_
  refine ⟨⟨m,rfl,hm,rfl⟩, ?_⟩
  cases hlt:sk m
  · exact aQ rfl trivial
  have hv:=Sq hm hlt
  refine aM rfl ⟨⟨m,rfl,hv,rfl⟩, ?_⟩
  rw [ec]
  cases hg:fb m
  · have hb0:bq m= []:=by unfold bq;rw [hg];rfl
    refine aQ (by rw [hb0];rfl) ⟨⟨m,rfl,hv,hg.symm⟩,aQ rfl trivial⟩
  obtain ⟨hS,hP⟩:=Sg hv hg
  have hlen:(bq m).length=19+(cW m).length:=by rw [hS.b];exact sj _ _ _
  have hle:=(si hv).2
  have hB:IsB (bq m):=by unfold bq;rw [hg];exact (Fk (si hv).1 hle).1
  obtain ⟨d1,h2⟩:=Oj hS (bT z)
  obtain ⟨d2,h3⟩:=Ol hS
  have h4:=Om (b:=bq m) (j:=j) (z:=y) (by omega) hj16 (by omega)
  have hB2:IsB (bq m++ [bT z]):=IsB.append hB ⟨⟨[z],rfl,fun x hx=>by simp at hx;subst hx;exact hz⟩,by simp⟩ (by rw [List.length_append,hlen];simp;omega)
  obtain ⟨⟨L,hL,hLb⟩,_⟩:=id hB
  have hLl:L.length=(bq m).length:=by rw [hL,iE]
  have hw2:(bq m).set j (bT y)=bV (L.set j y):=by rw [hL,Su]
  have hB3:IsB ((bq m).set j (bT y)):=⟨⟨_,hw2,fun x hx=>by rcases List.mem_or_eq_of_mem_set hx with h | h;exact hLb x h;subst h;omega⟩,by rw [List.length_set];omega⟩
  have hW2:bS (bq m).flatten j [.val (.int .u8 y)]=((bq m).set j (bT y)).flatten:=by rw [hw2,hL];exact KB y (by omega)
  have hfl:=qc hB
  refine aM (decide_eq_false (by omega)) ⟨hB, ?_⟩
  rintro y1 c1 s1 e1 ⟨⟨rfl,rfl⟩,rfl,rfl⟩
  have m1:=Sv hP
  refine ⟨?_, ?_,hB2, ?_⟩
  · have h:=gj (inf:=inf) (P:=Tryz.prog) (G:=cL) (ro:=0) (T:=⟨[.cells (Ie m), .cells (vU (bq m) 0).cells, .cells [.val (.int .i64 (rM (bq m) 0)), .val (.int .i64 (vV (bq m) 0)), .vec 1 (Bj (bq m) 0) .none]], []⟩) (T1:=⟨[.cells (Ie m), .cells (vU (bq m) 0).cells, .cells [.val (.int .i64 (rM (bq m) 0)), .val (.int .i64 (vV (bq m) 0)), .vec 1 (Bj (bq m) 0) .none]], [(0,1,false)]⟩) (t:=22) (tx:=22) (s:= .tmp 38) (x:= .tmp 39) (l:= [(38, .vec 1 [] .full),(39, .vec 1 (bq m) .none)]) (es:= []) (es2:=bq m) (k:=0) (n:=0) (bn:=false) Tryz.underlying22 i1 i4 (by rw [i2];rfl) (by rw [i2];decide) (by kernel_rfl) (by rw [i2];rfl) (by rw [i2];rfl) (by rw [i3];simp only [List.length_nil];omega)
    rw [i2] at h
    exact h
  · have h:=gj (inf:=inf) (P:=Tryz.prog) (G:=cL) (ro:=0) (T:=⟨[.cells (Ie m), .cells (vU (bq m) 0).cells, .cells [.val (.int .i64 (rM (bq m) 0)), .val (.int .i64 (vV (bq m) 0)), .vec 1 (Bj (bq m) 0) .none]], [(0+(bq m).length,1,false)]⟩) (T1:=⟨[.cells (Ie m), .cells (vU (bq m) 0).cells, .cells [.val (.int .i64 (rM (bq m) 0)), .val (.int .i64 (vV (bq m) 0)), .vec 1 (Bj (bq m) 0) .none]], [(0+(bq m).length,1,false)]⟩) (t:=22) (tx:=22) (s:= .tmp 40) (x:= .tmp 42) (l:= [(40, .vec 1 (bq m) (.tail 0 (0+(bq m).length))),(42, .vec 1 [bT z] .full)]) (es:=bq m) (es2:= [bT z]) (k:=0) (n:=0+(bq m).length) (bn:=false) Tryz.underlying22 i1 i4 (by rw [i2];rfl) (by rw [i2];decide) (by kernel_rfl) (by rw [i2];simp [aS,ea,cZ]) (by rw [i2];rfl) (by rw [i3];simp only [List.length_cons,List.length_nil];omega)
    rw [i2] at h
    exact h
  rintro y2 c2 s2 e2 ⟨⟨rfl,rfl⟩,rfl,rfl⟩
  have m2:=B4 h2
  have hne:bq m≠ []:=rY (by omega)
  rw [hj,←hy]
  refine ⟨Sw rfl rfl hne (by omega),Sx rfl rfl (by omega),TR (id:=5) (off:=j) (cs:=(bq m).flatten) (z:=y) rfl rfl rfl (by rw [hfl];omega),rfl,⟨rfl, ?_,rfl⟩,hB3, ?_⟩
  · have hr:=gz (T:=⟨[.row ((bq m).set j (bT y)).flatten], []⟩) (size:=1) (id:=0) (n:=(bq m).length) (es:=(bq m).set j (bT y)) rfl (xq hB3) (by rw [List.length_set])
    rw [hW2]
    have h5:bQ (⟨[.row ((bq m).set j (bT y)).flatten], []⟩:VT) 1 (.row 1 0 0 (bq m).length)=some ((bq m).set j (bT y)):=by
      unfold vn at hr
      simp only [Option.map_eq_some_iff,Prod.mk.injEq] at hr
      obtain ⟨es',h6,_,rfl⟩:=hr
      exact h6
    exact h5
  rintro y3 c3 s3 e3 ⟨⟨rfl,rfl⟩,rfl,rfl⟩
  have m3:=B4 h4
  rw [dy,m1.2]
  refine aM rfl ⟨⟨m,m,by rw [m1.1];rfl,rfl,⟨hv,hv⟩,UK hv hg⟩,fun ok hok=> ?_⟩
  have hok2:ok=decide (m=m):=by
    have h6:=hok
    rw [m1.1] at h6
    exact iS (m:=m) (o:=m) h6
  rw [decide_eq_true rfl] at hok2
  subst hok2
  refine aM rfl (aM (decide_eq_false (by omega)) (aM (decide_eq_false (by omega)) ⟨TS rfl (n:=(bq m).length-1) (by show TV.val (.int .i64 _)=_;rw [bP (by omega) (by omega)];congr 2;omega) (by omega),hB.take _, ?_⟩))
  rintro y4 c4 s4 e4 ⟨⟨rfl,rfl⟩,rfl,rfl⟩
  have m4:=B4 h3
  rw [m2.1,m2.2,m3.1,m3.2,m4.1,m4.2]
  exact aQ rfl (aQ rfl (aQ rfl (aQ rfl (aQ rfl (aQ rfl trivial)))))
end
section
open Go.ChangeShapes Go.WideShapes Go.ChangeAt Go.RowKit Go.Joins Go.Deep

theorem uz {α:Type} {k:Nat}:∀(l:List (List α)),(∀x∈l,x.length=k)→∀(j:Nat) u,l.flatten[j]?=some u→∃i c x,c<k∧j=i*k+c∧l[i]?=some x∧x[c]?=some u
 | [],_,j,u,h=>by simp at h
 | a::r,hz,j,u,h=>by
  have ha:=hz a (by simp)
  rw [List.flatten_cons] at h
  rcases Nat.lt_or_ge j a.length with hj | hj
  ·rw [List.getElem?_append_left hj] at h
   exact ⟨0,j,a,by omega,by omega,rfl,h⟩
  ·rw [List.getElem?_append_right hj] at h
   obtain ⟨i,c,x,h1,h2,h3,h4⟩:=uz r (fun x hx=>hz x (by simp [hx])) _ u h
   refine ⟨i+1,c,x,h1, ?_,by simpa using h3,h4⟩
   rw [Nat.add_mul];omega
section
variable {P:Program} {H:Type} {enc:TypeId × Value→H} {w:World} {base:Nat} {spare:Nat→Bool} {held:Bool}
end
end
section
open Go.ChangeShapes Go.WideShapes Go.ChangeAt Go.RowKit Go.Joins Go.Deep

inductive SH where
 | int (k:IntKind)
 | bool
 | str
 | slice (es:List SH)
mutual
def SH.Fits:SH→TV→Prop
 | .int k,x=>∃z,x= .val (.int k z)∧(Lit.int k z).wf=true
 | .bool,x=>∃b,x= .val (.bool b)
 | .str,x=>∃s:ByteArray,x= .val (.string s)∧s.size≤maxLen
 | .slice es,x=>∃l:List (List TV),x= .vec es.length l .none∧l.length≤maxLen∧∀e∈l,dw es e
def dw:List SH→List TV→Prop
 | [], []=>True
 | s::ss,x::xs=>s.Fits x∧dw ss xs
 | _,_=>False
end
theorem yK:∀{ss:List SH} {xs:List TV},dw ss xs→xs.length=ss.length
 | [], [],_=>rfl
 | [],_::_,h=>by simp [dw] at h
 | _::_, [],h=>by simp [dw] at h
 | s::ss,x::xs,h=>by
  simp only [dw] at h
  simp [yK h.2]
theorem bF {s:SH} {ss:List SH} {xs:List TV} (h:dw (s::ss) xs):∃x r,xs=x::r∧s.Fits x∧dw ss r:=by
 cases xs with
 | nil=>simp [dw] at h
 | cons x r=>simp only [dw] at h;exact ⟨x,r,rfl,h⟩
theorem lJ {xs:List TV} (h:dw [] xs):xs= []:=by
 cases xs with
 | nil=>rfl
 | cons x r=>simp [dw] at h
theorem dr {k:IntKind} {x:TV} (h:SH.Fits (.int k) x):∃z,x= .val (.int k z)∧(Lit.int k z).wf=true:=by simpa [SH.Fits] using h
theorem If {x:TV} (h:SH.Fits .bool x):∃b,x= .val (.bool b):=by simpa [SH.Fits] using h
theorem iU {es:List SH} {x:TV} (h:SH.Fits (.slice es) x):∃l:List (List TV),x= .vec es.length l .none∧l.length≤maxLen∧∀e∈l,dw es e:=by simpa [SH.Fits] using h
def sn (f:TypeId→Option SH):List TypeId→Option (List SH)
 | []=>some []
 | t::r=>match f t,sn f r with
  | some s,some l=>some (s::l)
  | _,_=>none
theorem DF {f:TypeId→Option SH}:∀{ts:List TypeId} {ss:List SH},sn f ts=some ss→ss.length=ts.length
 | [],ss,h=>by simp [sn] at h;subst h;rfl
 | t::r,ss,h=>by
  simp only [sn] at h
  split at h
  ·rename_i s l h1 h2
   injection h with h;subst h
   simp [DF h2]
  ·cases h
def DG (P:Program):Nat→TypeId→Option SH
 | 0,_=>none
 | n+1,t=>match P.underlying t with
  | some (.int k)=>some (.int k)
  | some .bool=>some .bool
  | some .string=>some .str
  | some (.slice e)=>match lC P n e with
   | some ts=>bif Nat.beq (P.cellsOf e) ts.length&&Nat.ble 1 ts.length then (sn (DG P n) ts).map .slice else none
   | none=>none
  | _=>none
section
variable {P:Program} {H:Type} {enc:TypeId × Value→H} {w:World} {base:Nat} {held:Bool}
abbrev B5 (enc:TypeId × Value→H) (P:Program) (w:World) (base:Nat) (held:Bool) (t:TypeId) (sh:SH):Prop:=∀u m y,DataW.trod enc P w base (fun _=>true) held m t [u]=some y→u.oneCell' =true∧∃x,VR (kf w) w x u∧sh.Fits x
theorem uA {f:TypeId→Option SH} (hf:∀t sh,f t=some sh→B5 enc P w base held t sh):∀(ts:List TypeId) (ss:List SH) (cs:List Value),sn f ts=some ss→cs.length=ts.length→
  (∀(j:Nat) t',ts[j]?=some t' →∃u m y,cs[j]?=some u∧DataW.trod enc P w base (fun _=>true) held m t' [u]=some y)→(∀u∈cs,u.oneCell' =true)∧∃xs,VRs (kf w) w xs cs∧dw ss xs
 | [],ss,cs,h,hl,_=>by
  simp [sn] at h;subst h
  have:=List.eq_nil_of_length_eq_zero hl
  subst this
  exact ⟨by simp, [],VRs.nil _ _,trivial⟩
 | t::r,ss, [],h,hl,_=>by simp at hl
 | t::r,ss,c::cs,h,hl,hj=>by
  simp only [sn] at h
  split at h
  ·rename_i s l h1 h2
   injection h with h;subst h
   obtain ⟨u,m,y,k1,k2⟩:=hj 0 t rfl
   simp at k1;subst k1
   obtain ⟨a1,x,a2,a3⟩:=hf t s h1 _ m y k2
   obtain ⟨b1,xs,b2,b3⟩:=uA hf r l cs h2 (by simpa using hl) fun j t' ht' =>by
    obtain ⟨u,m,y,k1,k2⟩:=hj (j+1) t' (by simpa using ht')
    exact ⟨u,m,y,by simpa using k1,k2⟩
   refine ⟨fun u hu=> ?_,x::xs,VRs.cons a2 b2,a3,b3⟩
   rcases List.mem_cons.1 hu with rfl | hu
   ·exact a1
   ·exact b1 u hu
  ·cases h
theorem wk {e:TypeId} {n:Nat} {ts:List TypeId} {f:TypeId→Option SH} {ss:List SH} (hf:∀t sh,f t=some sh→B5 enc P w base held t sh) (hts:lC P n e=some ts) (hss:sn f ts=some ss):
    ∀(rows:List (List Value)),(∀x∈rows,x.length=ts.length∧∃m y,DataW.trod enc P w base (fun _=>true) held m e x=some y)→
      (∀u∈rows.flatten,u.oneCell' =true)∧∃l:List (List TV),l.length=rows.length∧VRs (kf w) w l.flatten rows.flatten∧∀x∈l,dw ss x
  | [],_=>⟨by simp, [],rfl,VRs.nil _ _,by simp⟩
  | r::rows,h=>by
    obtain ⟨h1,m,y,h2⟩:=h r List.mem_cons_self
    obtain ⟨a1,xs,a2,a3⟩:=uA hf ts ss r hss h1 (qV n m e ts r y hts h1 h2)
    obtain ⟨b1,l,b2,b3,b4⟩:=wk hf hts hss rows fun x hx=>h x (List.mem_cons_of_mem _ hx)
    refine ⟨fun u hu=> ?_,xs::l,by simp [b2],by rw [List.flatten_cons,List.flatten_cons];exact a2.app b3,fun x hx=> ?_⟩
    · rw [List.flatten_cons] at hu
      rcases List.mem_append.1 hu with hu | hu
      · exact a1 u hu
      · exact b1 u hu
    · rcases List.mem_cons.1 hx with rfl | hx
      · exact a3
      · exact b4 x hx
theorem yL:∀(n:Nat) (t:TypeId) (sh:SH),DG P n t=some sh→B5 enc P w base held t sh
  | 0,_,_,h=>by simp [DG] at h
  | n+1,t,sh,h=>by
    intro u m y hy
    simp only [DG] at h
    split at h
    · rename_i k hk
      injection h with h;subst h
      obtain ⟨z,rfl,wz⟩:=IY hk hy
      exact ⟨rfl,_, .val _,z,rfl,wz⟩
    · rename_i hk
      injection h with h;subst h
      obtain ⟨b,e,_⟩:=DataW.trod_bool hk hy
      injection e with e;subst e
      exact ⟨rfl,_, .val _,b,rfl⟩
    · rename_i hk
      injection h with h;subst h
      obtain ⟨s,e,_,hs⟩:=DataW.trod_string hk hy
      injection e with e;subst e
      exact ⟨rfl,_, .val _,s,rfl,hs⟩
    · rename_i e ht
      split at h
      · rename_i ts hts
        cases hb:(Nat.beq (P.cellsOf e) ts.length&&Nat.ble 1 ts.length) with
        | false=>rw [hb] at h;cases h
        | true=>
          rw [hb] at h
          simp only [Bool.and_eq_true] at hb
          have hk:=Nat.eq_of_beq_eq_true hb.1
          have hpos:=Nat.le_of_ble_eq_true hb.2
          simp only [cond_true,Option.map_eq_some_iff] at h
          obtain ⟨ss,hss,rfl⟩:=h
          have hsl:=DF hss
          rcases open_slice ht hy with ⟨hcs,_⟩ | ⟨a,len,cap,m',n',D,Pl,hcs,hbb,hl,hm,hmm,hx,hall⟩
          · injection hcs with hcs;subst hcs
            exact ⟨rfl, .vec ss.length [] .none, .nil trivial, [],rfl,Nat.zero_le _,by simp⟩
          · injection hcs with hcs;subst hcs
            simp only [if_true] at hmm
            subst hmm
            rw [hk] at hall
            obtain ⟨b,o,sp⟩:=a
            rcases Nat.eq_zero_or_pos m' with hc0 | hc0
            · subst hc0
              have:len=0:=by omega
              subst this
              exact ⟨rfl, .vec ss.length [] .none, .odd _ trivial, [],rfl,Nat.zero_le _,by simp⟩
            · have hsp:sp=none:=by
                obtain ⟨cs',h1,_⟩:=hall 0 hc0
                obtain ⟨_,h3,h4⟩:=World.cells?_some h1
                have h5:=h4 0 hpos
                rw [List.getElem?_eq_getElem (by omega)] at h5
                cases sp with
                | none=>rfl
                | some s=>simp [World.cell?,Addr.add] at h5;split at h5<;>cases h5
              subst hsp
              obtain ⟨V,hV⟩:=choose_lt (α:=List Value) (p:=fun i cs' =>w.cells? base ((⟨b,o,none⟩:Addr).add (i*ts.length)) ts.length=some cs' ∧DataW.trod enc P w base (fun _=>true) held n' e cs' =some (D i,Pl i)) (fun i hi=>hall i hi)
              have each:∀i,i<len→(V i).length=ts.length∧(∀c,c<ts.length→w.cell? ⟨b,o+(i*ts.length+c),none⟩=(V i)[c]?)∧∃y,DataW.trod enc P w base (fun _=>true) held n' e (V i)=some y:=fun i hi=>by
                obtain ⟨h1,h2⟩:=hV i (by omega)
                obtain ⟨_,h3,h4⟩:=World.cells?_some h1
                refine ⟨h3,fun c hc=> ?_,_,h2⟩
                rw [←h4 c hc]
                congr 1
                simp [Addr.add_none,Nat.add_assoc]
              have at1:∀(i:Nat) x,((List.range len).map V)[i]?=some x→i<len∧x=V i:=fun i x hx=>by
                rw [List.getElem?_map] at hx
                rcases Nat.lt_or_ge i len with hi | hi
                · rw [List.getElem?_range hi] at hx
                  injection hx with hx
                  exact ⟨hi,hx.symm⟩
                · rw [List.getElem?_eq_none (by simpa using hi)] at hx;cases hx
              have hz:∀x∈(List.range len).map V,x.length=ts.length:=fun x hx=>by
                obtain ⟨i,hi,rfl⟩:=List.mem_map.1 hx
                exact (each i (List.mem_range.1 hi)).1
              obtain ⟨k1,l,k2,k3,k4⟩:=wk (fun t sh h=>yL n t sh h) hts hss ((List.range len).map V) fun x hx=>by
                obtain ⟨i,hi,rfl⟩:=List.mem_map.1 hx
                obtain ⟨e1,_,y,e3⟩:=each i (List.mem_range.1 hi)
                exact ⟨e1,n',y,e3⟩
              have hlen:l.length=len:=by rw [k2];simp
              refine ⟨rfl, .vec ss.length l .none, ?_,l,rfl,by omega,k4⟩
              refine .mk_vec hlen.symm hl hm (fun x hx=>yK (k4 x hx)) trivial k3 (fun j hj=> ?_) (fun j u hu=> ?_) k1
              · rw [←k3.1] at hj
                obtain ⟨i,c,x,h1,h2,h3,h4⟩:=uz _ hz j _ (List.getElem?_eq_getElem hj)
                obtain ⟨hi,rfl⟩:=at1 i x h3
                show (w.cell? ⟨b,o+j,none⟩).isSome=true
                rw [h2,(each i hi).2.1 c h1,h4];rfl
              · obtain ⟨i,c,x,h1,h2,h3,h4⟩:=uz _ hz j u hu
                obtain ⟨hi,rfl⟩:=at1 i x h3
                rw [h2,(each i hi).2.1 c h1,h4]
      · cases h
    · cases h
theorem Cn {n m:Nat} {t:TypeId} {ts:List TypeId} {ss:List SH} {fs:Array Field} {r:Reach} {b0:Nat} {v:Value} {d:DataW H} {p:List MemPlace} (ht:P.underlying t=some (.struct fs)) (hts:lC P n t=some ts) (hlt:P.cellsOf t=ts.length) (hss:sn (DG P m) ts=some ss)
  (hv:Value.okWide P w r b0 t v) (h:DataW.Trod enc P w base (fun _=>true) held t v d p):∃xs,VR (kf w) w (.agg xs) v∧dw ss xs:=by
 obtain ⟨⟨cs⟩,rfl,hsz⟩:=okWide_struct ht hv
 obtain ⟨fuel,hf⟩:=h
 have hl:cs.length=ts.length:=by rw [←hlt];simpa using hsz
 obtain ⟨_,xs,h1,h2⟩:=uA (fun t sh h=>yL m t sh h) ts ss cs hss hl (qV n fuel t ts cs _ hts hl hf)
 exact ⟨xs, .mk_agg h1,h2⟩
def B6 (P:Program) (n:Nat) (t:TypeId):Option (List SH):=match lC P n t with
 | some ts=>bif Nat.beq (P.cellsOf t) ts.length then sn (DG P n) ts else none
 | none=>none
theorem B7 {n:Nat} {t:TypeId} {ss:List SH} {fs:Array Field} {r:Reach} {b0:Nat} {v:Value} {d:DataW H} {p:List MemPlace} (hs:B6 P n t=some ss) (ht:P.underlying t=some (.struct fs))
  (hv:Value.okWide P w r b0 t v) (h:DataW.Trod enc P w base (fun _=>true) held t v d p):∃xs,VR (kf w) w (.agg xs) v∧dw ss xs:=by
 unfold B6 at hs
 split at hs
 ·rename_i ts hts
  cases hb:Nat.beq (P.cellsOf t) ts.length with
  | false=>rw [hb] at hs;cases hs
  | true=>
   rw [hb] at hs
   exact Cn ht hts (Nat.eq_of_beq_eq_true hb) hs hv h
 ·cases hs
end
end
section
open Go.RowKit Go.Deep Go.WideShapes Go.ChangeAt

theorem wl {α:Type} (f:α→List TV) (Q:α→Prop):∀(l:List (List TV)),(∀e∈l,∃a,e=f a∧Q a)→∃al:List α,l=al.map f∧∀a∈al,Q a
 | [],_=>⟨[],rfl,fun _ h=>by cases h⟩
 | e::l,h=>by
  obtain ⟨a,rfl,ha⟩:=h _ List.mem_cons_self
  obtain ⟨al,rfl,hs⟩:=wl f Q l fun e he=>h e (List.mem_cons_of_mem _ he)
  exact ⟨a::al,rfl,fun b hb=>by
   rcases List.mem_cons.1 hb with rfl | hb
   ·exact ha
   ·exact hs b hb⟩
theorem Sz {z:Int} (h:(Lit.int .u8 z).wf=true):0≤z∧z<256:=by
 simp [Lit.wf] at h
 have e0:IntKind.u8.min=0:=by decide
 have e1:IntKind.u8.max=255:=by decide
 omega
theorem LY {z:Int} (h:(Lit.int .u32 z).wf=true):0≤z∧z<4294967296:=by
 simp [Lit.wf] at h
 have e0:IntKind.u32.min=0:=by decide
 have e1:IntKind.u32.max=4294967295:=by decide
 omega
theorem TU {z:Int} (h:(Lit.int .u64 z).wf=true):0≤z:=by
 simp [Lit.wf] at h
 have e0:IntKind.u64.min=0:=by decide
 omega
theorem yM {l:List (List TV)} (h:∀e∈l,dw [.int .u8] e):∃zs,l=bV zs∧B1 zs:=wl bT _ l fun e he=>by
 obtain ⟨x,r,rfl,h1,h2⟩:=bF (h e he)
 obtain rfl:=lJ h2
 obtain ⟨z,rfl,hz⟩:=dr h1
 exact ⟨z,rfl,Sz hz⟩
theorem Ig {l:List (List TV)} (h:∀e∈l,dw [.int .u32, .int .i64] e):∃ps,l=aW ps:=by
 obtain ⟨ps,h1,_⟩:=wl cV (fun _=>True) l fun e he=>by
  obtain ⟨x,r,rfl,h1,h2⟩:=bF (h e he)
  obtain ⟨y,r,rfl,h3,h4⟩:=bF h2
  obtain rfl:=lJ h4
  obtain ⟨a,rfl,_⟩:=dr h1
  obtain ⟨n,rfl,_⟩:=dr h3
  exact ⟨(a,n),rfl,trivial⟩
 exact ⟨ps,h1⟩
theorem SA {l:List (List TV)} (h:∀e∈l,dw [.int .i64] e):∃ps,l=iV ps:=by
 obtain ⟨ps,h1,_⟩:=wl iT (fun _=>True) l fun e he=>by
  obtain ⟨x,r,rfl,h1,h2⟩:=bF (h e he)
  obtain rfl:=lJ h2
  obtain ⟨a,rfl,_⟩:=dr h1
  exact ⟨a,rfl,trivial⟩
 exact ⟨ps,h1⟩
theorem KC {l:List (List TV)} (h:∀e∈l,dw [.int .i64, .slice [.int .u8]] e):∃cs,l=bv cs∧∀c∈cs,B1 c.2:=wl wb (fun c=>B1 c.2) l fun e he=>by
 obtain ⟨x,r,rfl,h1,h2⟩:=bF (h e he)
 obtain ⟨y,r,rfl,h3,h4⟩:=bF h2
 obtain rfl:=lJ h4
 obtain ⟨a,rfl,_⟩:=dr h1
 obtain ⟨b,rfl,_,hb⟩:=iU h3
 obtain ⟨zs,rfl,hz⟩:=yM hb
 exact ⟨(a,zs),rfl,hz⟩
def SB:List SH:= [.int .i64, .int .i64, .int .i64, .int .u32, .slice [.int .i64, .slice [.int .u8]], .slice [.int .u32, .int .i64], .int .i64, .slice [.int .i64], .int .u32, .int .i64, .bool, .slice [.int .u32, .int .i64], .int .i64, .int .i64, .slice [.int .u8]]
theorem Ot {xs:List TV} (h:dw SB xs):∃m:MsV,xs=m.cells∧xz m:=by
 obtain ⟨x0,r0,rfl,h0,g0⟩:=bF h
 obtain ⟨x1,r1,rfl,h1,g1⟩:=bF g0
 obtain ⟨x2,r2,rfl,h2,g2⟩:=bF g1
 obtain ⟨x3,r3,rfl,h3,g3⟩:=bF g2
 obtain ⟨x4,r4,rfl,h4,g4⟩:=bF g3
 obtain ⟨x5,r5,rfl,h5,g5⟩:=bF g4
 obtain ⟨x6,r6,rfl,h6,g6⟩:=bF g5
 obtain ⟨x7,r7,rfl,h7,g7⟩:=bF g6
 obtain ⟨x8,r8,rfl,h8,g8⟩:=bF g7
 obtain ⟨x9,r9,rfl,h9,g9⟩:=bF g8
 obtain ⟨xa,ra,rfl,ha,ga⟩:=bF g9
 obtain ⟨xb,rb,rfl,hb,gb⟩:=bF ga
 obtain ⟨xc,rc,rfl,hc,gc⟩:=bF gb
 obtain ⟨xd,rd,rfl,hd,gd⟩:=bF gc
 obtain ⟨xe,re,rfl,he,ge⟩:=bF gd
 obtain rfl:=lJ ge
 obtain ⟨k,rfl,_⟩:=dr h0
 obtain ⟨n,rfl,_⟩:=dr h1
 obtain ⟨hh,rfl,_⟩:=dr h2
 obtain ⟨i,rfl,wi⟩:=dr h3
 obtain ⟨l,rfl,_,hl⟩:=iU h4
 obtain ⟨w,rfl,_,hw⟩:=iU h5
 obtain ⟨o,rfl,_⟩:=dr h6
 obtain ⟨p,rfl,_,hp⟩:=iU h7
 obtain ⟨j,rfl,wj⟩:=dr h8
 obtain ⟨q,rfl,_⟩:=dr h9
 obtain ⟨b,rfl⟩:=If ha
 obtain ⟨x,rfl,_,hx⟩:=iU hb
 obtain ⟨c,rfl,_⟩:=dr hc
 obtain ⟨s,rfl,_⟩:=dr hd
 obtain ⟨d,rfl,_,hd2⟩:=iU he
 obtain ⟨l,rfl,bl⟩:=KC hl
 obtain ⟨w,rfl⟩:=Ig hw
 obtain ⟨p,rfl⟩:=SA hp
 obtain ⟨x,rfl⟩:=Ig hx
 obtain ⟨d,rfl,bd⟩:=yM hd2
 exact ⟨⟨k,⟨n,hh,i,l⟩,⟨w,⟨o,p,j,q,b⟩,x⟩,⟨c,s,d⟩⟩,rfl,bl,LY wi,LY wj,bd⟩
theorem KD {H:Type} {enc:TypeId × Value→H} {w:World} {b0 base:Nat} {held:Bool} {v:Value} {d:DataW H} {p:List MemPlace}
  (hv:Value.okWide Tryz.prog w .any b0 65 v) (h:DataW.Trod enc Tryz.prog w base (fun _=>true) held 65 v d p):∃m:MsV,VR (kf w) w (.agg m.cells) v∧xz m:=by
 obtain ⟨xs,h1,h2⟩:=B7 (n:=9) (ss:=SB) (by kernel_rfl) Tryz.underlying65 hv h
 obtain ⟨m,rfl,hm⟩:=Ot h2
 exact ⟨m,h1,hm⟩
theorem Ou (m:MsV) (hm:xz m) (u z:Int) (hu:(Lit.int .u64 u).wf=true) (hz:(Lit.int .u8 z).wf=true) (v:Value) (w:World) (hG:GOk cL (kf w) w) (hv:VR (kf w) w (.agg m.cells) v):
  Calls Tryz.prog 6 #[v, .int .u64 u, .int .u8 z] w fun e w' =>e= .returned (.bool true)∧Gr w w' :=
 VCx.topK (us:= [v, .int .u64 u, .int .u8 z]) (Sy hm (TU hu) (Sz hz)) w hG (VRs.cons hv (VRs.cons (.val _) (VRs.cons (.val _) (VRs.nil _ _))))
theorem B8 {W:World} (h:laidMetH Tryz.prog Rows.messageBackRow.laid W):Lib.TabIs Tryz.prog W "fairway/message.least" .i64 nu:=by
 have h' :laidMet Tryz.prog [("fairway/message.least",Lib.tabData .i64 nu)] W:=h
 exact Lib.tabIs_of_head vQ (by kernel_rfl) Tryz.underlying112 Tryz.underlying3 (by kernel_rfl) (by kernel_rfl) h'
end
section
open Go.ChangeShapes Go.WideShapes Go.ChangeAt Go.RowKit Go.Joins Go.Deep
theorem sq (os:Os) (started:os.Started) (H:Type) (enc:TypeId × Value→H):
    ReturnsInHanded {} Tryz.checked os 6 .any (fun w args=>(Rows.messageBackSpec.pre enc Tryz.prog Tryz.f6 [] false w args∧laidMetH Tryz.prog Rows.messageBackRow.laid w)∧sizedMet enc Tryz.prog Tryz.f6 (OpenSpec.ofChange Rows.messageBackSpec) false w args)
      (Rows.messageBackSpec.post enc Tryz.prog Tryz.f6 false true false false):=by
  refine returnsInHanded_of_change_and (C:=Tryz.checked) (X:=fun w _=>laidMetH Tryz.prog Rows.messageBackRow.laid w) (fun _ _ _ hh h=>h.of_heap hh) J9 started (by kernel_rfl) Tryz.func6
    (ChangeSpec.witness_shaped (enc:=enc) (C:=Tryz.checked) (os:=os) (X:=fun w _=>laidMetH Tryz.prog Rows.messageBackRow.laid w) false (World.laidAll Tryz.prog os Rows.messageBackRow.laid) #[.agg #[.int .i64 0, .int .i64 0, .int .i64 0, .int .u32 0, .slice none 0 0, .slice none 0 0, .int .i64 0, .slice none 0 0, .int .u32 0, .int .i64 0, .bool false, .slice none 0 0, .int .i64 0, .int .i64 0, .slice none 0 0], .int .u64 0, .int .u8 0] 8 (World.laidAll_os _ _ _)
      (World.shaped_of_ZipB (by kernel_rfl) (by kernel_rfl)) (by kernel_rfl) (by kernel_rfl) (by kernel_rfl)
      (by rw [MakeChecks.laidMetH_plain _ _ _ (by kernel_rfl)];exact laidMet_laidAll _ (by kernel_rfl) (by kernel_rfl))) ?_
  intro W base args ds gs before hval0 hW _ _ hL _
  have hval:∀(j:Nat) t v,Tryz.f6.params[j]?=some t→args[j]?=some v→Value.okWide Tryz.prog W .any base t v:=hval0
  have hW' :=hW
  obtain ⟨p,q,hA0,hV,rfl,hfz,hnd⟩:=hW
  have hA:DataW.TrodAll enc Tryz.prog W 0 (fun _=>true) true Tryz.f6.params.toList args.toList ds p:=hA0
  rw [Tryz.params6] at hA hval
  obtain ⟨v0,vs0,d0,ds0,p0,q0,hargs,rfl,rfl,h0,r0⟩:=trodAll_cons hA
  obtain ⟨v1,vs1,d1,ds1,p1,q1,rfl,rfl,rfl,h1,r1⟩:=trodAll_cons r0
  obtain ⟨v2,vs2,d2,ds2,p2,q2,rfl,rfl,rfl,h2,r2⟩:=trodAll_cons r1
  obtain ⟨rfl,rfl,rfl⟩:=trodAll_nil r2
  obtain rfl:args= #[v0,v1,v2]:=by cases args;simp_all
  obtain ⟨rfl,rfl⟩:=trodVars_none hV
  have lt0:∀x∈p0,x.block<W.heap.size:=by obtain ⟨m,hm⟩:=h0;exact DataW.trod_lt m _ _ _ hm
  have lt1:∀x∈p1,x.block<W.heap.size:=by obtain ⟨m,hm⟩:=h1;exact DataW.trod_lt m _ _ _ hm
  have lt2:∀x∈p2,x.block<W.heap.size:=by obtain ⟨m,hm⟩:=h2;exact DataW.trod_lt m _ _ _ hm
  obtain ⟨x0,x0v,x0m⟩:=KD (hval 0 65 v0 rfl rfl) h0
  obtain ⟨x1z,rfl,_,_,x1w⟩:=open_int Tryz.underlying81 (hval 1 81 v1 rfl rfl) h1
  obtain ⟨x2z,rfl,_,_,x2w⟩:=open_int Tryz.underlying5 (hval 2 5 v2 rfl rfl) h2
  clear hA0 hval0
  refine (Ou x0 x0m x1z x2z x1w x2w v0 W (G5 (B8 hL)) x0v).mono fun e W' ⟨he,bel⟩=> ?_
  subst he
  exact ⟨_,rfl,_,_,_, [],_, [],hW',trodAll_mk1 (shut_bool Tryz.underlying4 _),(trodAll_cons_mk (Below.trod rJ (by kernel_rfl) (of_decide_eq_true (by kernel_rfl)) h0 bel lt0) (trodAll_cons_mk (Below.trod rJ (by kernel_rfl) (of_decide_eq_true (by kernel_rfl)) h1 bel lt1) (trodAll_cons_mk (Below.trod rJ (by kernel_rfl) (of_decide_eq_true (by kernel_rfl)) h2 bel lt2) trodAll_mk0))),rfl,Below.frame bel _,fun h=>by cases h⟩
end
section
open Go
theorem iG:Tryz.pinned.checked=Tryz.checked:=rfl
theorem jM:Tryz.checked.prog=Tryz.prog:=rfl
theorem wm {H:Type} (enc:TypeId × Value→H) (P:Program) (fn:Func):
  Rows.messageBackRow.pre enc P fn (OpenSpec.ofChange Rows.messageBackSpec)=fun w args=>(Rows.messageBackSpec.pre enc P fn [] false w args∧laidMetH P Rows.messageBackRow.laid w)∧sizedMet enc P fn (OpenSpec.ofChange Rows.messageBackSpec) false w args:=rfl
set_option maxHeartbeats 10000000 in
theorem su:joinedFacts Tryz.prog 6 Tryz.f6 Rows.messageBackSpec Rows.messageBackRow=true:=by
 unfold joinedFacts
 repeat' rw [Bool.and_eq_true]
 repeat' apply And.intro
 all_goals (as_aux_lemma=>kernel_rfl)
theorem sY:joinedFacts Tryz.pinned.checked.prog 6 Tryz.f6 Rows.messageBackSpec Rows.messageBackRow=true:=by
 rw [iG,jM];exact su
theorem uB:Tryz.f6.isInstance Tryz.pinned.checked.prog Rows.messageBackRow.origin Rows.messageBackRow.targs:=(of_decide_eq_true (by kernel_rfl))
theorem uC:Tryz.f6.isWrapper Tryz.pinned.checked.prog Rows.messageBackRow.wrapper Rows.messageBackRow.mainSum:=by unfold Func.isWrapper;first | (rw [if_pos (by decide+kernel)];kernel_rfl) | (rw [if_neg (by decide+kernel)];exact ⟨rfl,rfl⟩)
theorem nL:Tryz.pinned.checked.prog.funcNamed Rows.messageBackRow.func=some 6:=by kernel_rfl
theorem pp:Tryz.pinned.checked.prog.funcs[(6:Nat)]?=some Tryz.f6:=by
 rw [iG,jM];exact Tryz.func6
theorem uD (os:Os) (started:os.Started) (H:Type) (enc:TypeId × Value→H):
  ReturnsInHanded Rows.messageBackRow.assume Tryz.pinned.checked os 6 .any (Rows.messageBackRow.pre enc Tryz.pinned.checked.prog Tryz.f6 (OpenSpec.ofChange Rows.messageBackSpec))
   (Rows.messageBackSpec.post enc Tryz.pinned.checked.prog Tryz.f6 Rows.messageBackRow.apart Rows.messageBackRow.fresh Rows.messageBackRow.handsOn Rows.messageBackRow.again):=by
 rw [wm,iG,jM]
 exact sq os started H enc
theorem messageBack_holds:Rows.MessageBackSaid:=
 OpenClaim.holds_of_wide 6 Tryz.f6 rfl rfl rfl rfl rfl rfl rfl ⟨rfl,rfl,rfl,rfl,rfl⟩ rfl rfl rfl rfl rfl nL pp sY uB uC
  (fun os started H enc _=>uD os started H enc)
theorem xA:Rows.messageBackRow.wfByText (OpenSpec.ofChange Rows.messageBackSpec)=true:=by kernel_rfl
theorem uE:Tryz.pinned.checked.prog.mainIs=some (true,("d86007e5bf9bb8b38bd9514c41c46ca1a94da96a85d6c67eb6aa7af7ccdc133f" :String).toList):=by kernel_rfl
theorem uF:false=Rows.messageBackRow.goesBy Tryz.pinned.checked.prog:=by kernel_rfl
theorem sZ:true=Tryz.pinned.checked.prog.looks []:=by kernel_rfl
theorem s5:([65,81,5].all fun u=> !Tryz.pinned.checked.prog.wantsStandIn u)=true:=by kernel_rfl
theorem xB:Tryz.f6.params= #[65,81,5]:=Tryz.params6
theorem messageBackCard_holds:Rows.MessageBackCardSaid:=
 Claim7.holds_tied_plain_at .later [] [.data] true (true, "d86007e5bf9bb8b38bd9514c41c46ca1a94da96a85d6c67eb6aa7af7ccdc133f") true
  messageBack_holds (fun _ h=>by cases h) xA (fun _ h=>by cases h) messageBack_row_tie rfl ⟨rfl,rfl⟩ uE rfl
  (fun f fn hf hfn=>by
   obtain rfl:f=6:=Option.some.inj (hf.symm.trans nL)
   obtain rfl:fn=Tryz.f6:=Option.some.inj (hfn.symm.trans pp)
   refine ⟨sZ,fun j t ht=> ?_⟩
   rw [xB] at ht
   have hm:t∈ [65,81,5]:=by simpa using Array.mem_of_getElem? ht
   have:=List.all_eq_true.1 s5 t hm
   simpa using this)
  uF
#print axioms messageBackCard_holds
end

end Go.Proofs.YtogbdjlelkepcaaGreatDoor