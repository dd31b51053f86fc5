/-Part 6 of the proof of messageBackCard_holds:MbC,MbD,MbE ... No condition. -/
import Derived.Test.YtogbdjlelkepcaaGreatDoorBk1
import Derived.Test.YtogbdjlelkepcaaGreatDoorBk2
import Derived.Test.YtogbdjlelkepcaaGreatDoorBk3
import Derived.Test.YtogbdjlelkepcaaGreatDoorBk4
import Derived.Test.YtogbdjlelkepcaaGreatDoorBk5
set_option maxRecDepth 100000
namespace Go.Proofs.YtogbdjlelkepcaaGreatDoor
section
open Go.RowKit

theorem cM {k:Int} (n:Int) (hk:k≤8):IsB (ap k n):=AG (by omega)
theorem aX {k:Int} (n:Int):(ap k n).length=k.toNat:=CL _ _
theorem Nw:∀ro ys T K,qa ro ys T K→VCx Tryz.prog ae ro dN ys T K:=by
 intro ro ys T K hw
 unfold qa at hw
 split at hw
 ·rename_i x n k
  split at hw
  ·obtain ⟨⟨⟨h1,h1b⟩,h2,h3⟩,hk⟩:=hw
   obtain ⟨n,rfl⟩:=Int.eq_ofNat_of_zero_le h1
   obtain ⟨k,rfl⟩:=Int.eq_ofNat_of_zero_le h2
   have hb:IsB (rt k n):=AG (by omega)
   exact VCx.liftPure aq (Jk (n:=n) (k:=k) (by omega)) (by simp only [ar,TV.ren]) (fun f g=>by simp only [TV.ren,hb.ren,Tok.ren]) hk
  ·rename_i b tok
   obtain ⟨⟨⟨⟨h1,h1b⟩,h2,h3⟩,hb,hne⟩,hk⟩:=hw
   obtain ⟨n,rfl⟩:=Int.eq_ofNat_of_zero_le h1
   obtain ⟨k,rfl⟩:=Int.eq_ofNat_of_zero_le h2
   have hp:=cM (k:=((k:Nat):Int)) ((n:Nat):Int) h3
   refine VCx.liftPure aq (Mu (n:=n) (k:=k) hb hne (tok.ren (bb []) (bb [])) (by omega)) (by simp only [ar,TV.ren,hb.ren]) (fun f g=> ?_) hk
   have e:bg f g (b++ap ((k:Nat):Int) ((n:Nat):Int))=b++ap ((k:Nat):Int) ((n:Nat):Int):=by rw [cq,List.map_append,←cq,←cq,hb.ren,hp.ren]
   simp only [TV.ren,Tok.ren]
   exact congrArg (fun z=>TV.vec 1 z .none) e
  ·exact hw.elim
 ·exact hw.elim
theorem jx {n:Int} (h0:0≤n) (h1:n≤1000000000000000):IntKind.u64.wrap n=n:=by
 simp only [IntKind.wrap,IntKind.bits,IntKind.signed];simp;omega
theorem sQ:aZ Tryz.prog ae (aC [(dN,qa)]):=aJ fun p hp=>by obtain rfl:=List.mem_singleton.1 hp;exact Nw
theorem xh {b c:Bs} (hb:IsB b) (hc:IsB c) (f g:Nat→Option Nat):bg f g (b++c)=b++c:=by
 rw [cq,List.map_append,←cq,←cq,hb.ren,hc.ren]
theorem xi {f:FuncId} {kd:IntKind} {k:Int} (h0:∀{n:Int},0≤n→n≤1000000000000000→VCx Tryz.prog ae 0 f [.val (.slice none 0 0), .val (.int kd n)] ⟨[], []⟩ fun x T' =>x= .vec 1 (ap k n) .none∧T' =⟨[], []⟩)
  (h1:∀{n:Int} {b:Bs} (tok:Tok),0≤n→n≤1000000000000000→IsB b→b≠ []→VCx Tryz.prog ae 0 f [.vec 1 b tok, .val (.int kd n)] ⟨[], []⟩ fun x T' =>x= .vec 1 (b++ap k n) .none∧T' =⟨[], []⟩):
  ∀ro ys T K,jr kd k ro ys T K→VCx Tryz.prog ae ro f ys T K:=by
 intro ro ys T K hw
 unfold jr at hw
 split at hw
 ·rename_i x q n
  obtain ⟨rfl,hw⟩:=hw
  split at hw
  ·obtain ⟨⟨⟨g1,hn⟩,g2,g3⟩,hk⟩:=hw
   exact VCx.liftPure aq (h0 g1 hn) (by simp only [ar,TV.ren]) (fun f g=>by simp only [TV.ren,(cM n g3).ren,Tok.ren]) hk
  ·rename_i b tok
   obtain ⟨⟨⟨⟨g1,hn⟩,g2,g3⟩,hb,hne⟩,hk⟩:=hw
   exact VCx.liftPure aq (h1 (tok.ren (bb []) (bb [])) g1 hn hb hne) (by simp only [ar,TV.ren,hb.ren]) (fun f g=>by simp only [TV.ren,xh hb (cM n g3),Tok.ren]) hk
  ·exact hw.elim
 ·exact hw.elim
theorem Lh:∀ro ys T K,jr .i64 1 ro ys T K→VCx Tryz.prog ae ro lX ys T K:=xi
 (fun g hn=>ai ac aa sQ ah (Qm _ _) (by rw [jx g hn];exact ⟨⟨⟨g,hn⟩,by decide,by decide⟩,rfl,rfl⟩))
 (fun tok g hn hb hne=>ai ac aa sQ ah (S5 _ tok _ _) (by rw [jx g hn];exact ⟨⟨⟨⟨g,hn⟩,by decide,by decide⟩,hb,hne⟩,rfl,rfl⟩))
theorem Hp:∀ro ys T K,jr .i64 2 ro ys T K→VCx Tryz.prog ae ro iC ys T K:=xi
 (fun g hn=>ai ac aa sQ ah (Nu _ _) (by rw [jx g hn];exact ⟨⟨⟨g,hn⟩,by decide,by decide⟩,rfl,rfl⟩))
 (fun tok g hn hb hne=>ai ac aa sQ ah (Qn _ tok _ _) (by rw [jx g hn];exact ⟨⟨⟨⟨g,hn⟩,by decide,by decide⟩,hb,hne⟩,rfl,rfl⟩))
theorem Bl:∀ro ys T K,jr .u32 4 ro ys T K→VCx Tryz.prog ae ro p9 ys T K:=xi
 (fun g hn=>ai ac aa sQ ah (Nv _ _) (by rw [jx g hn];exact ⟨⟨⟨g,hn⟩,by decide,by decide⟩,rfl,rfl⟩))
 (fun tok g hn hb hne=>ai ac aa sQ ah (Qo _ tok _ _) (by rw [jx g hn];exact ⟨⟨⟨⟨g,hn⟩,by decide,by decide⟩,hb,hne⟩,rfl,rfl⟩))
theorem S7:∀ro ys T K,Ld ro ys T K→VCx Tryz.prog ae ro ko ys T K:=by
 intro ro ys T K hw
 unfold Ld at hw
 split at hw
 ·obtain ⟨⟨h1,h2⟩,hk⟩:=hw
  refine VCx.liftPure aq (CO _ h1) rfl (fun _ _=>rfl) ?_
  rw [h2];exact hk
 ·exact hw.elim
theorem Qr {n:Int} (h0:0≤n) (h1:n≤32):IntKind.u8.wrap n=n:=by
 simp only [IntKind.wrap,IntKind.bits,IntKind.signed];simp;omega
theorem Qs {n:Int} (h0:0≤n) (h1:n≤32):IntKind.i64.wrap (Int.tdiv (IntKind.i64.wrap (IntKind.i64.wrap (n+8)-1)) 8)=(n+7)/8:=by
 rw [bP (z:=n+8) (by omega) (by omega),bP (z:=n+8-1) (by omega) (by omega),show n+8-1=n+7 by omega,Int.tdiv_eq_ediv_of_nonneg (by omega),bP (by omega) (by omega)]
theorem Bm {a n:Int} (h0:0≤n) (h1:n≤32):IsB (gl a n):=by
 obtain ⟨⟨l,hl,hz⟩,hlen⟩:=(cM (k:=4) a (by decide)).take (lY n)
 refine ⟨⟨n::l,by unfold gl;rw [hl];rfl,fun z h=> ?_⟩,by unfold gl;simp only [List.length_cons,List.length_take,aX];omega⟩
 rcases List.mem_cons.1 h with rfl | h
 ·omega
 ·exact hz z h
theorem Nx {a n:Int} (h:uq a n):VCx Tryz.prog ae 0 Bk [.agg [.val (.int .u32 a), .val (.int .i64 n)]] ⟨[], []⟩ fun x T' =>x= .vec 1 (gl a n) .none∧T' =⟨[], []⟩:=by
 obtain ⟨⟨a0,a1⟩,⟨n0,n1⟩,hc⟩:=h
 have hS:aZ Tryz.prog ae (aC [(p9,jr .u32 4),(ko,Ld)]):=aJ fun p hp=>by
  rcases List.mem_cons.1 hp with rfl | hp;exact Bl
  obtain rfl:=List.mem_singleton.1 hp;exact S7
 have hb:=Bm (a:=a) n0 n1
 have hl:(gl a n).length=1+(min (lY n) 4):=by unfold gl;simp only [List.length_cons,List.length_take,aX];omega
 refine VCx.toLe (Q:=fun T' =>T' =⟨[], []⟩) (VCx.keepQ 0 0 (Nat.le_refl _) (Nat.le_refl _) (ai ac aa hS ah (Qp a n ((ap 4 a).take (lY n)) (gl a n) (0+((ap 4 a).take (lY n)).length) _) ⟨⟨⟨n0,n1⟩,hc⟩,rfl,⟨⟨a0,by omega⟩,by decide,by decide⟩,⟨rfl,rfl,rfl,trivial⟩,⟨rfl,rfl,rfl,trivial⟩, ?_, ?_, ?_,rfl⟩))
 ·rw [Qs n0 n1]
  have h:=n9 (x:= .tmp 12) (i:= .tmp 15) (l:= [(12, .vec 1 (ap 4 a) .none),(15, .val (.int .i64 ((n+7)/8)))]) (b:=ap 4 a) (tok:= .none) (k:= .i64) (z:=(n+7)/8) (n:=lY n) rfl rfl (by omega) rfl (by rw [aX];unfold lY;omega)
  exact h
 ·rw [Qr n0 n1]
  have h:=iO (ro:=0) (T:=⟨[.cells [.val (.int .u32 a), .val (.int .i64 n)], .cells [.val (.int .u32 a), .val (.int .i64 n)]], []⟩) (T1:=⟨[.cells [.val (.int .u32 a), .val (.int .i64 n)], .cells [.val (.int .u32 a), .val (.int .i64 n)]], [(0,1,false)]⟩) (s:= .tmp 9) (x:= .tmp 16) (l:= [(9, .vec 1 [bT n] .full),(16, .vec 1 ((ap 4 a).take (lY n)) .none)]) (es:= [bT n]) (es2:=(ap 4 a).take (lY n)) (k:=0) (n:=0) (bn:=false) rfl rfl (by simp only [List.length_cons,List.length_nil,List.length_take,aX];omega)
  exact h
 ·simp only [TV.ren,hb.ren]
  exact .vec 1 _ _
theorem Qt:∀ro ys T K,Le ro ys T K→VCx Tryz.prog ae ro Bk ys T K:=by
 intro ro ys T K hw
 unfold Le at hw
 split at hw
 ·obtain ⟨h,hk⟩:=hw
  exact VCx.liftPure aq (Nx h) rfl (fun f g=>by simp only [TV.ren,(Bm (a:=_) h.2.1.1 h.2.1.2).ren,Tok.ren]) hk
 ·exact hw.elim
def mn (l:List (Int × Int)):Prop:=(∀p∈l,uq p.1 p.2)∧l.length≤100000
def bB (l:List (Int × Int)):Bs:=l.flatMap fun p=>gl p.1 p.2
theorem Di {a n:Int}:(gl a n).length≤5:=by unfold gl;simp only [List.length_cons,List.length_take,aX];omega
theorem lb:∀l:List (Int × Int),(bB l).length≤5*l.length
 | []=>Nat.le_refl _
 | p::l=>by
  have:=lb l
  have h2:=Di (a:=p.1) (n:=p.2)
  simp only [bB,List.flatMap_cons,List.length_append,List.length_cons] at this ⊢
  omega
theorem lc:∀{l:List (Int × Int)},mn l→IsB (bB l)
  | [],_=> .nil
  | p::l,h=>by
    have h1:=lc (l:=l) ⟨fun q hq=>h.1 q (List.mem_cons_of_mem _ hq),by have:=h.2;simp only [List.length_cons] at this;omega⟩
    obtain ⟨⟨m,hm,hz⟩,_⟩:=h1
    obtain ⟨⟨k,hk,hy⟩,_⟩:=Bm (a:=p.1) (h.1 p List.mem_cons_self).2.1.1 (h.1 p List.mem_cons_self).2.1.2
    have hl:=lb (p::l)
    have h2:=h.2
    refine ⟨⟨k++m, ?_,fun z h=> ?_⟩,by omega⟩
    · show gl p.1 p.2++bB l=_
      rw [hk,hm,bV,bV,bV,List.map_append]
    · rcases List.mem_append.1 h with h | h
      · exact hy z h
      · exact hz z h
theorem Hq {l:List (Int × Int)} {j:Nat} (h:j<l.length):bB (l.take (j+1))=bB (l.take j)++gl l[j].1 l[j].2:=by
 unfold bB
 rw [List.take_add_one,List.getElem?_eq_getElem h,List.flatMap_append]
 simp
theorem xj (objs:List VO) (A c:Bs) (h:A.length+c.length≤1000000) (s x:Nat) (hne:Nat.beq s x=false):ba Tryz.prog ae 0 ⟨objs, [(A.length,1,true)]⟩ (.call ⟨.builtin .append, #[.tmp s, .tmp x], #[22,22]⟩) [(s, .vec 1 A (.tail 0 A.length)),(x, .vec 1 c .none)] (.vec 1 (A++c) (.tail 0 (A++c).length)) ⟨objs, [((A++c).length,1,true)]⟩:=by
 have h:=iO (ro:=0) (T:=⟨objs, [(A.length,1,true)]⟩) (T1:=⟨objs, [(A.length,1,true)]⟩) (s:= .tmp s) (x:= .tmp x) (l:= [(s, .vec 1 A (.tail 0 A.length)),(x, .vec 1 c .none)]) (es:=A) (es2:=c) (k:=0) (n:=A.length) (bn:=true) (by simp [aS,ea,cZ]) (by simp [aS,ea,hne,gY]) (by omega)
 rw [List.length_append]
 exact h
theorem qb {x i:Operand} {l:List (Nat × TV)} {es:Bs} {tok:Tok} {k:IntKind} {z:Int} {cs:List TV} (hx:aS ae l x= .vec 2 es tok) (hz:aS ae l i= .val (.int k z)) (h0:0≤z) (he:es[z.toNat]?=some cs):bo Tryz.prog ae (.indexAddr 58 x i) l (.elt cs):=by
 obtain ⟨inf,i1,i2,i3,i4⟩:=pS
 exact gO (inf:=inf) Tryz.underlying58 i1 (by rw [i2];exact hx) hz h0 he
theorem Kh {l:List (Int × Int)} (hl:mn l):dD Tryz.prog ae (Ue (bB l) (l.map cV) (aH Tryz.prog nB 0)):=bL fun p hp=>by
  obtain rfl:=List.mem_singleton.1 hp
  have hS:aZ Tryz.prog ae (aC [(Bk,Le)]):=aJ fun p hp=>by obtain rfl:=List.mem_singleton.1 hp;exact Qt
  refine cA fun K hK=> ?_
  have htk:∀j,mn (l.take j):=fun j=>⟨fun p hp=>hl.1 p (List.mem_of_mem_take hp),by have:=hl.2;rw [List.length_take];omega⟩
  refine dS (f:=nB) (id:=0) (by kernel_rfl) 18 Hl (fun j:Nat=>l.length-j) (fun j:Nat=>Df (bB (l.take j)) (l.map cV) j) (fun j=>⟨[], [((bB (l.take j)).length,1,true)]⟩) (fun j=>j≤l.length) 0 1 (fun _ _=>⟨Nat.le_refl _,Nat.le_refl _⟩)
    (fun e vs T=>e= .normal∧vs=Df (bB l) (l.map cV) (l.map cV).length∧T=⟨[], [((bB l).length,1,true)]⟩) (fun j hj=> ?_) 0 (Nat.zero_le _) K ?_
  · by_cases hlt:j<l.length
    · have hat:(l.map cV)[((j:Nat):Int).toNat]?=some (cV l[j]):=by rw [Int.toNat_natCast,List.getElem?_map,List.getElem?_eq_getElem hlt];rfl
      have hp:=hl.1 _ (List.getElem_mem hlt)
      have hb1:=lb (l.take j)
      have hb2:=Di (a:=l[j].1) (n:=l[j].2)
      have hll:=hl.2
      rw [List.length_take] at hb1
      have ht:=xj [.cells (cV l[j])] (bB (l.take j)) (gl l[j].1 l[j].2) (by omega) 12 14 rfl
      rw [←Hq hlt] at ht
      refine b7 ac aa hS ah (Dh (bB (l.take j)) (bB (l.take (j+1))) (l.map cV) l[j].1 l[j].2 j _) ?_
      refine aQ (decide_eq_true (by rw [List.length_map];omega)) ⟨qb rfl rfl (by omega) hat,hp,ht,rfl,rfl,j+1,hlt,by show l.length-(j+1)<l.length-j;omega, .inr ⟨rfl, ?_⟩⟩
      simp only [ar,TV.ren,jF,(lc (htk (j+1))).ren,Tok.ren]
      rw [kz hlt (by omega)]
      rfl
    · have hj2:j=l.length:=by omega
      refine b7 ac aa hS ah (Dh (bB (l.take j)) [] (l.map cV) 0 0 j _) ?_
      subst hj2
      exact aM (decide_eq_false (by rw [List.length_map];omega)) ⟨rfl,rfl,rfl,by simp only [Df,List.length_map,List.take_length],by rw [List.take_length]⟩
  · rintro e vs T ⟨rfl,rfl,rfl⟩
    exact hK
theorem Ny {l:List (Int × Int)} (hl:mn l):VCx Tryz.prog ae 0 nB [.vec 2 (l.map cV) .none] ⟨[], []⟩ fun x T' =>x= .vec 1 (bB l) .none∧T' =⟨[], []⟩:=by
 refine VCx.toLe (Q:=fun T' =>T' =⟨[], []⟩) (VCx.keepQ 0 0 (Nat.le_refl _) (Nat.le_refl _) (ai ac aa an (Kh hl) (Qq (bB l) (l.map cV) _) ⟨rfl,⟨rfl,rfl,rfl,⟨rfl,trivial⟩,rfl,rfl,rfl⟩, ?_,rfl⟩))
 simp only [TV.ren,(lc hl).ren]
 exact .vec 1 _ _
def dY (z:Int):Bool:=decide (z≥1)&&decide (z≤65535)
theorem Nz {l:List Int} (hn:l.length≤2000000):dD Tryz.prog ae (Uf (iV l) (l.all dY) (aH Tryz.prog tB 0)):=bL fun p hp=>by
  obtain rfl:=List.mem_singleton.1 hp
  refine cA fun K hK=> ?_
  refine dS (f:=tB) (id:=0) (by kernel_rfl) 19 Dg (fun j:Nat=>l.length-j) (fun j:Nat=>yv (iV l) 0 j) (fun _=>⟨[], []⟩) (fun j=>j≤l.length∧(l.take j).all dY=true) 0 0 (fun _ _=>⟨Nat.le_refl _,Nat.le_refl _⟩)
    (fun e vs T=>T=⟨[], []⟩∧((e= .normal∧l.all dY=true∧vs=yv (iV l) 0 (iV l).length)∨(e= .ret∧l.all dY=false∧∃z:Nat,vs=yv (iV l) z z))) (fun j hj=> ?_) 0 ⟨Nat.zero_le _,rfl⟩ K ?_
  · obtain ⟨hj,hall⟩:=hj
    by_cases hlt:j<l.length
    · have hat:(iV l)[((j:Nat):Int).toNat]?=some (iT l[j]):=by rw [Int.toNat_natCast,iV,List.getElem?_map,List.getElem?_eq_getElem hlt];rfl
      have bad:dY l[j]=false→l.all dY=false:=fun h=>by
        cases hc:l.all dY
        · rfl
        · have:=List.all_eq_true.1 hc _ (List.getElem_mem hlt);rw [h] at this;cases this
      refine b7 ac aa an ah (Hm (iV l) l[j] j _) ?_
      refine aQ (decide_eq_true (by rw [dA];omega)) ⟨ni rfl rfl (by omega) hat,am (fun c1=>am (fun c2=> ?_) (fun c2=> ?_)) (fun c1=> ?_)⟩
      · exact ⟨rfl,rfl,rfl, .inr ⟨rfl,bad (by unfold dY;rw [c1];cases h:decide (l[j]≤65535)<;>rw [h] at c2<;>first | rfl | cases c2),j,rfl⟩⟩
      · have c2:decide (l[j]≤65535)=true:=by cases h:decide (l[j]≤65535)<;>rw [h] at c2<;>first | rfl | cases c2
        refine ⟨rfl,rfl,j+1,⟨hlt, ?_⟩,by show l.length-(j+1)<l.length-j;omega, .inl ⟨rfl,by rw [kz hlt hn];rfl⟩⟩
        rw [List.take_add_one,List.getElem?_eq_getElem hlt,List.all_append,hall]
        simp only [Option.toList_some,List.all_cons,List.all_nil,Bool.and_true,Bool.true_and]
        unfold dY;rw [c1,c2];rfl
      · exact ⟨rfl,rfl,rfl, .inr ⟨rfl,bad (by unfold dY;rw [c1];rfl),j,rfl⟩⟩
    · have hj2:j=l.length:=by omega
      subst hj2
      rw [List.take_length] at hall
      refine b7 ac aa an ah (Hm (iV l) 0 l.length _) ?_
      exact aM (decide_eq_false (by rw [dA];omega)) ⟨rfl,rfl,rfl, .inl ⟨rfl,hall,by simp only [yv,dA]⟩⟩
  · rintro e vs T ⟨rfl,⟨rfl,h1,rfl⟩ | ⟨rfl,h1,z,rfl⟩⟩
    · have:=hK 0;rw [h1] at this;exact this
    · have:=hK z;rw [h1] at this;exact this
end
section
open Go.RowKit

theorem UH (a n c p:Int):av BinOp.neq (aP (.agg #[.int .u32 a, .int .i64 n]) (.agg #[.int .u32 c, .int .i64 p]))= !(decide (a=c)&&decide (n=p)):=by
 simp [av,aP,ef,ci,Bool.beq_eq_decide_eq]
def aW (l:List (Int × Int)):Bs:=l.map cV
theorem Dj {l m:List Int} (hn:l.length≤2000000):dD Tryz.prog ae (E7 1 (iV l) (iV m) (decide (l=m)) (aH Tryz.prog tC 0)):=bL fun p hp=>by
  obtain rfl:=List.mem_singleton.1 hp
  have hL:∀l:List Int,(iV l).length=l.length:=fun l=>List.length_map _
  refine cA fun K hK=> ?_
  obtain ⟨hlm,hK⟩:=hK
  rw [hL,hL] at hlm
  refine dS (f:=tC) (id:=0) (by kernel_rfl) 26 vW (fun j:Nat=>l.length-j) (fun j:Nat=>pg 1 (iV l) (iV m) j) (fun _=>⟨[], []⟩) (fun j=>j≤l.length∧l.take j=m.take j) 0 0 (fun _ _=>⟨Nat.le_refl _,Nat.le_refl _⟩)
    (fun e vs T=>T=⟨[], []⟩∧((e= .normal∧l=m∧vs=pg 1 (iV l) (iV m) (iV l).length)∨(e= .ret∧l≠m∧∃z:Int,vs=pg 1 (iV l) (iV m) z))) (fun j hj=> ?_) 0 ⟨Nat.zero_le _,rfl⟩ K ?_
  · obtain ⟨hj,hall⟩:=hj
    by_cases hlt:j<l.length
    · have hlt2:j<m.length:=by omega
      have hat:(iV l)[((j:Nat):Int).toNat]?=some (iT l[j]):=by rw [Int.toNat_natCast];show (l.map _)[j]?=_;rw [List.getElem?_map,List.getElem?_eq_getElem hlt];rfl
      have hat2:(iV m)[((j:Nat):Int).toNat]?=some (iT m[j]):=by rw [Int.toNat_natCast];show (m.map _)[j]?=_;rw [List.getElem?_map,List.getElem?_eq_getElem hlt2];rfl
      refine b7 ac aa an ah (Hn (iV l) (iV m) l[j] m[j] j _) ?_
      refine aQ (decide_eq_true (by rw [hL];omega)) ⟨ni rfl rfl (by omega) hat,ni rfl rfl (by omega) hat2, ?_⟩
      rw [dy]
      refine am (fun c1=> ?_) (fun c1=> ?_)
      · refine ⟨rfl,rfl,rfl, .inr ⟨rfl,fun h=> ?_,j,rfl⟩⟩
        subst h
        simp at c1
      · refine ⟨rfl,rfl,j+1,⟨hlt, ?_⟩,by show l.length-(j+1)<l.length-j;omega, .inl ⟨rfl,by rw [kz hlt hn];rfl⟩⟩
        have he:l[j]=m[j]:=by simpa using c1
        rw [List.take_add_one,List.getElem?_eq_getElem hlt,List.take_add_one,List.getElem?_eq_getElem hlt2,hall,he]
    · have hj2:j=l.length:=by omega
      subst hj2
      rw [List.take_length,hlm,List.take_length] at hall
      refine b7 ac aa an ah (Hn (iV l) (iV m) 0 0 l.length _) ?_
      exact aM (decide_eq_false (by rw [hL];omega)) ⟨rfl,rfl,rfl, .inl ⟨rfl,hall,by simp only [pg,hL]⟩⟩
  · rintro e vs T ⟨rfl,⟨rfl,h1,rfl⟩ | ⟨rfl,h1,z,rfl⟩⟩
    · have:=hK 0;rw [decide_eq_true h1] at this;exact this
    · have:=hK z;rw [decide_eq_false h1] at this;exact this
theorem Qu {l m:List Int} (hn:l.length≤2000000):VCx Tryz.prog ae 0 tC [.vec 1 (iV l) .none, .vec 1 (iV m) .none] ⟨[], []⟩ fun x T' =>x= .val (.bool (decide (l=m)))∧T' =⟨[], []⟩:=by
  have hL:∀l:List Int,(iV l).length=l.length:=fun l=>List.length_map _
  refine VCx.keepQ 0 0 (Nat.le_refl _) (Nat.le_refl _) ?_
  by_cases hlm:l.length=m.length
  · refine ai ac aa an (Dj hn) (Lf (iV l) (iV m) _ _) ?_
    rw [dy,hL,hL]
    refine aM (by rw [decide_eq_true (by omega)];rfl) ⟨rfl,⟨rfl,rfl,rfl,trivial,rfl,rfl,by rw [←hL l]⟩,hlm,fun z=> ?_⟩
    by_cases h:l=m
    · rw [decide_eq_true h];exact ⟨rfl,rfl⟩
    · rw [decide_eq_false h];exact ⟨rfl,rfl⟩
  · have hne:l≠m:=fun h=>hlm (by rw [h])
    refine ai ac aa an (Dj hn) (Lf (iV l) (iV m) _ _) ?_
    rw [dy,hL,hL]
    exact aQ (by rw [decide_eq_false (by omega)];rfl) ⟨by rw [decide_eq_false hne];rfl,rfl⟩
theorem Dk {l m:List (Int × Int)} (hn:l.length≤2000000):dD Tryz.prog ae (E7 2 (aW l) (aW m) (decide (l=m)) (aH Tryz.prog rN 0)):=bL fun p hp=>by
  obtain rfl:=List.mem_singleton.1 hp
  have hL:∀l:List (Int × Int),(aW l).length=l.length:=fun l=>List.length_map _
  refine cA fun K hK=> ?_
  obtain ⟨hlm,hK⟩:=hK
  rw [hL,hL] at hlm
  refine dS (f:=rN) (id:=0) (by kernel_rfl) 26 vW (fun j:Nat=>l.length-j) (fun j:Nat=>pg 2 (aW l) (aW m) j) (fun _=>⟨[], []⟩) (fun j=>j≤l.length∧l.take j=m.take j) 0 0 (fun _ _=>⟨Nat.le_refl _,Nat.le_refl _⟩)
    (fun e vs T=>T=⟨[], []⟩∧((e= .normal∧l=m∧vs=pg 2 (aW l) (aW m) (aW l).length)∨(e= .ret∧l≠m∧∃z:Int,vs=pg 2 (aW l) (aW m) z))) (fun j hj=> ?_) 0 ⟨Nat.zero_le _,rfl⟩ K ?_
  · obtain ⟨hj,hall⟩:=hj
    by_cases hlt:j<l.length
    · have hlt2:j<m.length:=by omega
      have hat:(aW l)[((j:Nat):Int).toNat]?=some (cV l[j]):=by rw [Int.toNat_natCast];show (l.map _)[j]?=_;rw [List.getElem?_map,List.getElem?_eq_getElem hlt];rfl
      have hat2:(aW m)[((j:Nat):Int).toNat]?=some (cV m[j]):=by rw [Int.toNat_natCast];show (m.map _)[j]?=_;rw [List.getElem?_map,List.getElem?_eq_getElem hlt2];rfl
      refine b7 ac aa an ah (Ho (aW l) (aW m) l[j].1 l[j].2 m[j].1 m[j].2 j _) ?_
      refine aQ (decide_eq_true (by rw [hL];omega)) ⟨qb rfl rfl (by omega) hat,qb rfl rfl (by omega) hat2, ?_⟩
      rw [UH]
      refine am (fun c1=> ?_) (fun c1=> ?_)
      · refine ⟨rfl,rfl,rfl, .inr ⟨rfl,fun h=> ?_,j,rfl⟩⟩
        subst h
        simp at c1
      · refine ⟨rfl,rfl,j+1,⟨hlt, ?_⟩,by show l.length-(j+1)<l.length-j;omega, .inl ⟨rfl,by rw [kz hlt hn];rfl⟩⟩
        have he:l[j]=m[j]:=by simp at c1;exact Prod.ext c1.1 c1.2
        rw [List.take_add_one,List.getElem?_eq_getElem hlt,List.take_add_one,List.getElem?_eq_getElem hlt2,hall,he]
    · have hj2:j=l.length:=by omega
      subst hj2
      rw [List.take_length,hlm,List.take_length] at hall
      refine b7 ac aa an ah (Ho (aW l) (aW m) 0 0 0 0 l.length _) ?_
      exact aM (decide_eq_false (by rw [hL];omega)) ⟨rfl,rfl,rfl, .inl ⟨rfl,hall,by simp only [pg,hL]⟩⟩
  · rintro e vs T ⟨rfl,⟨rfl,h1,rfl⟩ | ⟨rfl,h1,z,rfl⟩⟩
    · have:=hK 0;rw [decide_eq_true h1] at this;exact this
    · have:=hK z;rw [decide_eq_false h1] at this;exact this
theorem Qv {l m:List (Int × Int)} (hn:l.length≤2000000):VCx Tryz.prog ae 0 rN [.vec 2 (aW l) .none, .vec 2 (aW m) .none] ⟨[], []⟩ fun x T' =>x= .val (.bool (decide (l=m)))∧T' =⟨[], []⟩:=by
  have hL:∀l:List (Int × Int),(aW l).length=l.length:=fun l=>List.length_map _
  refine VCx.keepQ 0 0 (Nat.le_refl _) (Nat.le_refl _) ?_
  by_cases hlm:l.length=m.length
  · refine ai ac aa an (Dk hn) (Lg (aW l) (aW m) _ _) ?_
    rw [dy,hL,hL]
    refine aM (by rw [decide_eq_true (by omega)];rfl) ⟨rfl,⟨rfl,rfl,rfl,trivial,rfl,rfl,by rw [←hL l]⟩,hlm,fun z=> ?_⟩
    by_cases h:l=m
    · rw [decide_eq_true h];exact ⟨rfl,rfl⟩
    · rw [decide_eq_false h];exact ⟨rfl,rfl⟩
  · have hne:l≠m:=fun h=>hlm (by rw [h])
    refine ai ac aa an (Dk hn) (Lg (aW l) (aW m) _ _) ?_
    rw [dy,hL,hL]
    exact aQ (by rw [decide_eq_false (by omega)];rfl) ⟨by rw [decide_eq_false hne];rfl,rfl⟩
end
section
open Go.RowKit

def E8 (fl t:Int) (v:Bs):List TV:= [.val (.int .i64 fl), .val (.int .i64 t), .vec 1 v .none]
def yw (b:Bs):List Int:=b.map eJ
def rO (b:Bs):Bool:= !(yw b).all dY
def Dl (a b:Bs):Bool:=decide (yw a=yw b)
def oF (b:Bs):Prop:=UG b
def Qw (fl t:Int) (v:Bs):Prop:=jH fl t v
def Qx (fl t:Int) (v:Bs):Bs:=cS fl t v
def US:List TV→Bs
 | [.val (.int _ fl), .val (.int _ t), .vec _ v _]=>cS fl t v
 | _=> []
def Qy (L:Bs):Bs:=L.flatMap US
def Bn (L v:Bs):Prop:=v=Qy L
def E9 (L:Bs):Prop:=∃l:List (Int × Int × Bs),L=l.map (fun r=>E8 r.1 r.2.1 r.2.2)∧l.length≤10∧∀r∈l,jH r.1 r.2.1 r.2.2∧r.2.2.length≤1000
def Qz (b:Bs):Prop:=∃l:List Int,b=iV l∧l.length≤16∧l.all dY=true
def eZ (l:List Int):Bs:=l.flatMap fun z=>ap 2 z
def ew (b:Bs):Bs:=bif b.isEmpty then [] else ap 1 2++ap 1 b.length++eZ (yw b)
structure AtV where
 o:Int
 p:List Int
 h:Int
 m:Int
 hm:Bool
deriving DecidableEq
def AtV.cells (a:AtV):List TV:= [.val (.int .i64 a.o), .vec 1 (iV a.p) .none, .val (.int .u32 a.h), .val (.int .i64 a.m), .val (.bool a.hm)]
def ig (a:AtV):Bool:=decide (0≤a.o)&&(decide (a.o≤2)&&(nj a.h&&(decide (a.p.length≤16)&&(a.p.all dY&&(bif a.hm then decide (0≤a.m)&&decide (a.m≤4294967295) else decide (a.m=0))))))
def Ki (l:List TV) (ok:Bool):Prop:=∃a:AtV,l=a.cells∧a.p.length≤2000000∧ok=ig a
abbrev Hr:=168
abbrev rP:=171
abbrev rQ:=172
abbrev Bo:=149
abbrev Hs:=150
abbrev yx:=106
def QA:aV:=fun _ ys T K=>match ys with
 | [.vec 1 l _, .fn (.func 169) [] []]=>oF l∧bif rO l then ∀z:Nat,K (.val (.int .i64 (Int.ofNat z))) T else K (.val (.int .i64 (-1))) T
 | _=>aN 84 default ys
def Li:aV:=fun _ ys T K=>match ys with
 | [.vec 1 l _, .fn (.func 169) [] []]=>oF l∧K (.val (.bool (rO l))) T
 | _=>aN 84 default ys
def Fa:aV:=fun _ ys T K=>match ys with
 | [.agg [.val (.int .i64 fl), .val (.int .i64 t), .vec 1 v .none]]=>Qw fl t v∧K (.vec 1 (Qx fl t v) .none) T
 | _=>aN 84 default ys
def Lj:aV:=fun _ ys T K=>match ys with
 | [.vec 3 l _]=>E9 l∧∀v:Bs,Bn l v→K (.vec 1 v .none) T
 | _=>aN 84 default ys
def Lk:aV:=fun _ ys T K=>match ys with
 | [.vec 1 l _]=>Qz l∧K (.vec 1 (ew l) .none) T
 | _=>aN 84 default ys
def Dm (ok:Bool):aV:=fun _ ys T K=>match ys with
 | [.agg l]=>Ki l ok∧K (.val (.bool ok)) T
 | _=>aN 84 default ys
def QB:aV:=fun _ ys T K=>match ys with
 | [.vec 1 l _, .vec 1 m _]=>(oF l∧oF m)∧K (.val (.bool (Dl l m))) T
 | _=>aN 84 default ys
def Ht:List Nat:= [3,13,14,15]
def Bp (B l:Bs) (j:Int):List TV:= [.vec 1 B .none, .vec 1 l .none, .val (.int .i64 l.length), .val (.int .i64 j)]
def Ug (B0 B l:Bs) (c0:Code):Nat→Option (b6 × Code):=cJ [(0,eU 24 Ht [] (Bp B0 l 0) ⟨[], []⟩ fun K=>K .normal (aR 24 Ht (Bp B l l.length)) ⟨[], []⟩ [],c0)]
def Hu:List Nat:= [3,6,7,8]
def Dn (B L:Bs) (j:Int):List TV:= [.vec 1 B (.tail 0 B.length), .vec 3 L .none, .val (.int .i64 L.length), .val (.int .i64 j)]
def Uh (B L:Bs) (c0:Code):Nat→Option (b6 × Code):=cJ [(0,Et 18 Hu [(3,1)] [6] (Dn [] L 0) ⟨[], [(0,1,true)]⟩ fun K=>K .normal (aR 18 Hu (Dn B L L.length)) ⟨[], [(B.length,1,true)]⟩ [],c0)]
theorem S8 (l:Bs) (Q:TV→VT→Prop):au Tryz.prog ae (aC [(tB,QA)]) aT 300 aK 0 Hr [.vec 1 l .none, .fn (.func 169) [] []] ⟨[], []⟩ Q=
 (oF (l)∧
 (bif rO l
 then (∀z:Nat,Q (.val (.bool true)) ⟨[], []⟩)
 else Q (.val (.bool false)) ⟨[], []⟩)):=by kernel_rfl
theorem S9 (B0 B l:Bs) (Q:TV→VT→Prop):au Tryz.prog ae (aC [(lX,jr .i64 1),(iC,jr .i64 2)]) aT 300 (Ug B0 B l (aH Tryz.prog rP 0)) 0 rP [.vec 1 l .none] ⟨[], []⟩ Q=
 (bif av BinOp.eql (aP (Value.int IntKind.i64 (↑(List.length l):Int)) (Value.int IntKind.i64 (0:Int)))
 then Q (.val (.slice .none 0 0)) ⟨[], []⟩
 else ((@Eq (IntKind) .i64 .i64)∧
 (co 2 1∧
 ((@Eq (IntKind) .i64 .i64)∧
 ((co ((↑(List.length l):Int)) 1∧
 gH (ap (1:Int) (2:Int)))∧
 ((aH Tryz.prog rP (0:Nat)=aH Tryz.prog rP (0:Nat))∧
 (((@Eq (Option Nat) .none .none)∧
 ((@Eq (Nat) 0 0)∧
 ((@Eq (List Nat) [] [])∧
 (True  ∧
 ((@Eq (VT) ⟨[], []⟩ ⟨[], []⟩)∧
 ((@Eq (Bool) true true)∧
 (@Eq (List TV) [(.vec 1 (ap (1:Int) (2:Int)++ap (1:Int) (↑(List.length l):Int)) .none),(.vec 1 (l) .none),(.val (.int .i64 ((↑(List.length l):Int)))),(.val (.int .i64 0))] [(.vec 1 (B0) .none),(.vec 1 (l) .none),(.val (.int .i64 ((↑(List.length l):Int)))),(.val (.int .i64 0))])))))))∧
 Q (.vec 1 (B) .none) ⟨[], []⟩))))))):=by kernel_rfl
theorem Hv (B l:Bs) (z:Int) (j:Nat) (Q:Exit→List TV→VT→List Nat→Nat→Prop):vx Tryz.prog ae (aC [(lX,jr .i64 1),(iC,jr .i64 2)]) (bc [(17, .elt [.val (.int .i64 z)],none)]) 300 aK none 0 (cI Tryz.prog rP 0) (aR 24 Ht (Bp B l j)) ⟨[], []⟩ [] (dm Ht Q)=
 (bif decide ((↑j:Int)<(↑(List.length l):Int))
 then (bo Tryz.prog (fun _=> .none) (.indexAddr 59 (.tmp 13) (.tmp 15)) [(13,(.vec 1 (l) .none)),(15,(.val (.int .i64 ((↑j:Int)))))] (.elt [(.val (.int .i64 (z)))])∧
 ((@Eq (IntKind) .i64 .i64)∧
 ((co (z) 2∧
 gH (B))∧
 Q .normal [(.vec 1 (B++ap (2:Int) z) .none),(.vec 1 (l) .none),(.val (.int .i64 ((↑(List.length l):Int)))),(.val (.int .i64 (IntKind.wrap IntKind.i64 ((↑j:Int)+(1:Int)))))] ⟨[], []⟩ [] 24)))
 else Q (.exit 0) [(.vec 1 (B) .none),(.vec 1 (l) .none),(.val (.int .i64 ((↑(List.length l):Int)))),(.val (.int .i64 ((↑j:Int))))] ⟨[], []⟩ [] 24):=by kernel_rfl
theorem Ta (B L:Bs) (Q:TV→VT→Prop):au Tryz.prog ae br aT 300 (Uh B L (aH Tryz.prog rQ 0)) 0 rQ [.vec 3 L .none] ⟨[], []⟩ Q=
 ((aH Tryz.prog rQ (0:Nat)=aH Tryz.prog rQ (0:Nat))∧
 (((@Eq (Option Nat) .none .none)∧
 ((@Eq (Nat) 0 0)∧
 ((@Eq (List Nat) [] [])∧
 (((@Eq (Option TV) (.some (.val (.slice .none 0 0))) (.some (.val (.slice .none 0 0))))∧
 True)∧
 ((@Eq (VT) ⟨[], [(0,(1,true))]⟩ ⟨[], [(0,(1,true))]⟩)∧
 ((@Eq (Bool) true true)∧
 (@Eq (List TV) [(.vec 1 [] (.tail 0 0)),(.vec 3 (L) .none),(.val (.int .i64 ((↑(List.length L):Int)))),(.val (.int .i64 0))] [(.vec 1 [] (.tail 0 0)),(.vec 3 (L) .none),(.val (.int .i64 ((↑(List.length L):Int)))),(.val (.int .i64 0))])))))))∧
 Q (.vec 1 (B) (.tail 0 (List.length B))) ⟨[], [((List.length B),(1,true))]⟩)):=by kernel_rfl
theorem Hw (B B2 L v:Bs) (fl t:Int) (j:Nat) (Q:Exit→List TV→VT→List Nat→Nat→Prop):vx Tryz.prog ae (aC [(oD,Fa)]) (bc [(999999, .dead,none),(10, .elt (E8 fl t v),none),(15, .vec 1 B2 (.tail 0 B2.length),some fun T=>{T with tails:= [(B2.length,1,true)]})]) 300 aK none 0 (cI Tryz.prog rQ 0) (aR 18 Hu (Dn B L j)) ⟨[], [(B.length,1,true)]⟩ [] (dm Hu Q)=
 (bif decide ((↑j:Int)<(↑(List.length L):Int))
 then (bo Tryz.prog (fun _=> .none) (.indexAddr 199 (.tmp 6) (.tmp 8)) [(6,(.vec 3 (L) .none)),(8,(.val (.int .i64 ((↑j:Int)))))] (.elt [(.val (.int .i64 (fl))),(.val (.int .i64 (t))),(.vec 1 (v) .none)])∧
 (Qw (fl) (t) (v)∧
 (ba Tryz.prog (fun _=> .none) 0 ⟨[(.cells [(.val (.int .i64 (fl))),(.val (.int .i64 (t))),(.vec 1 (v) .none)])], [((List.length B),(1,true))]⟩ (.call ⟨(.builtin .append), #[(.tmp 12),(.tmp 14)], #[22,22]⟩) [(12,(.vec 1 (B) (.tail 0 (List.length B)))),(14,(.vec 1 (Qx fl t v) .none))] (.vec 1 (B2) (.tail 0 (List.length B2))) ⟨[(.cells [(.val (.int .i64 (fl))),(.val (.int .i64 (t))),(.vec 1 (v) .none)])], [((List.length B2),(1,true))]⟩∧
 Q .normal [(.vec 1 (B2) (.tail 0 (List.length B2))),(.vec 3 (L) .none),(.val (.int .i64 ((↑(List.length L):Int)))),(.val (.int .i64 (IntKind.wrap IntKind.i64 ((↑j:Int)+(1:Int)))))] ⟨[(.cells [(.val (.int .i64 (fl))),(.val (.int .i64 (t))),(.vec 1 (v) .none)])], [((List.length B2),(1,true))]⟩ [] 18)))
 else Q (.exit 0) [(.vec 1 (B) (.tail 0 (List.length B))),(.vec 3 (L) .none),(.val (.int .i64 ((↑(List.length L):Int)))),(.val (.int .i64 ((↑j:Int))))] ⟨[], [((List.length B),(1,true))]⟩ [] 18):=by kernel_rfl
theorem Tb (o h m:Int) (hm:Bool) (p:Bs) (Q:TV→VT→Prop):au Tryz.prog ae (aC [(Hr,Li),(uc,ue)]) (bc [(999998, .dead,none)]) 300 aK 0 Bo [.agg [.val (.int .i64 o), .vec 1 p .none, .val (.int .u32 h), .val (.int .i64 m), .val (.bool hm)]] ⟨[], []⟩ Q=
 (bif decide (o<(0:Int))
 then Q (.val (.bool false)) ⟨[(.cells [(.val (.int .i64 (o))),(.vec 1 (p) .none),(.val (.int .u32 (h))),(.val (.int .i64 (m))),(.val (.bool (hm)))])], []⟩
 else (bif decide (o>(2:Int))
 then (bif decide (o>(2:Int))
 then Q (.val (.bool false)) ⟨[(.cells [(.val (.int .i64 (o))),(.vec 1 (p) .none),(.val (.int .u32 (h))),(.val (.int .i64 (m))),(.val (.bool (hm)))])], []⟩
 else (bif decide ((↑(List.length p):Int)>(16:Int))
 then (bif decide ((↑(List.length p):Int)>(16:Int))
 then Q (.val (.bool false)) ⟨[(.cells [(.val (.int .i64 (o))),(.vec 1 (p) .none),(.val (.int .u32 (h))),(.val (.int .i64 (m))),(.val (.bool (hm)))])], []⟩
 else (bif !hm
 then Q (.val (.bool (av BinOp.eql (aP (Value.int IntKind.i64 m) (Value.int IntKind.i64 (0:Int)))))) ⟨[(.cells [(.val (.int .i64 (o))),(.vec 1 (p) .none),(.val (.int .u32 (h))),(.val (.int .i64 (m))),(.val (.bool (hm)))])], []⟩
 else (bif decide (m≥(0:Int))
 then Q (.val (.bool (decide (m≤(4294967295:Int))))) ⟨[(.cells [(.val (.int .i64 (o))),(.vec 1 (p) .none),(.val (.int .u32 (h))),(.val (.int .i64 (m))),(.val (.bool (hm)))])], []⟩
 else Q (.val (.bool false)) ⟨[(.cells [(.val (.int .i64 (o))),(.vec 1 (p) .none),(.val (.int .u32 (h))),(.val (.int .i64 (m))),(.val (.bool (hm)))])], []⟩)))
 else (oF (p)∧
 (bif rO p
 then Q (.val (.bool false)) ⟨[(.cells [(.val (.int .i64 (o))),(.vec 1 (p) .none),(.val (.int .u32 (h))),(.val (.int .i64 (m))),(.val (.bool (hm)))])], []⟩
 else (bif !hm
 then Q (.val (.bool (av BinOp.eql (aP (Value.int IntKind.i64 m) (Value.int IntKind.i64 (0:Int)))))) ⟨[(.cells [(.val (.int .i64 (o))),(.vec 1 (p) .none),(.val (.int .u32 (h))),(.val (.int .i64 (m))),(.val (.bool (hm)))])], []⟩
 else (bif decide (m≥(0:Int))
 then Q (.val (.bool (decide (m≤(4294967295:Int))))) ⟨[(.cells [(.val (.int .i64 (o))),(.vec 1 (p) .none),(.val (.int .u32 (h))),(.val (.int .i64 (m))),(.val (.bool (hm)))])], []⟩
 else Q (.val (.bool false)) ⟨[(.cells [(.val (.int .i64 (o))),(.vec 1 (p) .none),(.val (.int .u32 (h))),(.val (.int .i64 (m))),(.val (.bool (hm)))])], []⟩))))))
 else (bif !nj h
 then Q (.val (.bool false)) ⟨[(.cells [(.val (.int .i64 (o))),(.vec 1 (p) .none),(.val (.int .u32 (h))),(.val (.int .i64 (m))),(.val (.bool (hm)))])], []⟩
 else (bif decide ((↑(List.length p):Int)>(16:Int))
 then (bif decide ((↑(List.length p):Int)>(16:Int))
 then Q (.val (.bool false)) ⟨[(.cells [(.val (.int .i64 (o))),(.vec 1 (p) .none),(.val (.int .u32 (h))),(.val (.int .i64 (m))),(.val (.bool (hm)))])], []⟩
 else (bif !hm
 then Q (.val (.bool (av BinOp.eql (aP (Value.int IntKind.i64 m) (Value.int IntKind.i64 (0:Int)))))) ⟨[(.cells [(.val (.int .i64 (o))),(.vec 1 (p) .none),(.val (.int .u32 (h))),(.val (.int .i64 (m))),(.val (.bool (hm)))])], []⟩
 else (bif decide (m≥(0:Int))
 then Q (.val (.bool (decide (m≤(4294967295:Int))))) ⟨[(.cells [(.val (.int .i64 (o))),(.vec 1 (p) .none),(.val (.int .u32 (h))),(.val (.int .i64 (m))),(.val (.bool (hm)))])], []⟩
 else Q (.val (.bool false)) ⟨[(.cells [(.val (.int .i64 (o))),(.vec 1 (p) .none),(.val (.int .u32 (h))),(.val (.int .i64 (m))),(.val (.bool (hm)))])], []⟩)))
 else (oF (p)∧
 (bif rO p
 then Q (.val (.bool false)) ⟨[(.cells [(.val (.int .i64 (o))),(.vec 1 (p) .none),(.val (.int .u32 (h))),(.val (.int .i64 (m))),(.val (.bool (hm)))])], []⟩
 else (bif !hm
 then Q (.val (.bool (av BinOp.eql (aP (Value.int IntKind.i64 m) (Value.int IntKind.i64 (0:Int)))))) ⟨[(.cells [(.val (.int .i64 (o))),(.vec 1 (p) .none),(.val (.int .u32 (h))),(.val (.int .i64 (m))),(.val (.bool (hm)))])], []⟩
 else (bif decide (m≥(0:Int))
 then Q (.val (.bool (decide (m≤(4294967295:Int))))) ⟨[(.cells [(.val (.int .i64 (o))),(.vec 1 (p) .none),(.val (.int .u32 (h))),(.val (.int .i64 (m))),(.val (.bool (hm)))])], []⟩
 else Q (.val (.bool false)) ⟨[(.cells [(.val (.int .i64 (o))),(.vec 1 (p) .none),(.val (.int .u32 (h))),(.val (.int .i64 (m))),(.val (.bool (hm)))])], []⟩)))))))):=by kernel_rfl
theorem Tc (o h m:Int) (hm ok:Bool) (p L4:Bs) (Q:TV→VT→Prop):au Tryz.prog ae (aC [(Bo,Dm ok),(lX,jr .i64 1),(p9,jr .u32 4),(rP,Lk),(rQ,Lj)]) (bc [(999998, .dead,none),(29, .vec 3 L4 (.tail 0 1),some fun T=>{T with tails:= [(1,3,false)]})]) 300 aK 0 Hs [.agg [.val (.int .i64 o), .vec 1 p .none, .val (.int .u32 h), .val (.int .i64 m), .val (.bool hm)]] ⟨[], []⟩ Q=
 (Ki [(.val (.int .i64 (o))),(.vec 1 (p) .none),(.val (.int .u32 (h))),(.val (.int .i64 (m))),(.val (.bool (hm)))] (ok)∧
 (bif !ok
 then Q (.val (.slice .none 0 0)) ⟨[(.cells [(.val (.int .i64 (o))),(.vec 1 (p) .none),(.val (.int .u32 (h))),(.val (.int .i64 (m))),(.val (.bool (hm)))])], []⟩
 else ((@Eq (IntKind) .i64 .i64)∧
 (co (o) 1∧
 (((@Eq (Option TV) (.some (.val (.int .u32 (h)))) (.some (.val (.int .u32 (h)))))∧
 ((@Eq (Option TV) (.some (.vec 1 (p) .none)) (.some (.vec 1 (p) .none)))∧
 ((@Eq (Option TV) (.some (.val (.int .i64 (o)))) (.some (.val (.int .i64 (o)))))∧
 True)))∧
 (Qz (p)∧
 (((@Eq (Option TV) (.some (.val (.int .u32 (h)))) (.some (.val (.int .u32 (h)))))∧
 ((@Eq (Option TV) (.some (.vec 1 (p) .none)) (.some (.vec 1 (p) .none)))∧
 ((@Eq (Option TV) (.some (.val (.int .i64 (o)))) (.some (.val (.int .i64 (o)))))∧
 True)))∧
 ((@Eq (IntKind) .u32 .u32)∧
 (co (h) 4∧
 (bif hm
 then ((@Eq (IntKind) .u32 .u32)∧
 (co (IntKind.wrap IntKind.u32 m) 4∧
 (ba Tryz.prog (fun _=> .none) 0 ⟨[(.cells [(.val (.int .i64 (o))),(.vec 1 (p) .none),(.val (.int .u32 (h))),(.val (.int .i64 (m))),(.val (.bool (hm)))])], []⟩ (.call ⟨(.builtin .append), #[(.tmp 22),(.tmp 28)], #[199,199]⟩) [(22,(.vec 3 [[(.val (.int .i64 64)),(.val (.int .i64 1)),(.vec 1 (ap (1:Int) o) .none)], [(.val (.int .i64 64)),(.val (.int .i64 2)),(.vec 1 (ew p) .none)], [(.val (.int .i64 64)),(.val (.int .i64 3)),(.vec 1 (ap (4:Int) h) .none)]] .full)),(28,(.vec 3 [[(.val (.int .i64 128)),(.val (.int .i64 4)),(.vec 1 (ap (4:Int) (IntKind.wrap IntKind.u32 m)) .none)]] .full))] (.vec 3 (L4) (.tail 0 1)) ⟨[(.cells [(.val (.int .i64 (o))),(.vec 1 (p) .none),(.val (.int .u32 (h))),(.val (.int .i64 (m))),(.val (.bool (hm)))])], [(1,(3,false))]⟩∧
 (E9 (L4)∧
 (∀v:Bs,(Bn (L4) (v)→Q (.vec 1 (v) .none) ⟨[(.cells [(.val (.int .i64 (o))),(.vec 1 (p) .none),(.val (.int .u32 (h))),(.val (.int .i64 (m))),(.val (.bool (hm)))])], [(1,(3,false))]⟩))))))
 else (E9 [[(.val (.int .i64 64)),(.val (.int .i64 1)),(.vec 1 (ap (1:Int) o) .none)], [(.val (.int .i64 64)),(.val (.int .i64 2)),(.vec 1 (ew p) .none)], [(.val (.int .i64 64)),(.val (.int .i64 3)),(.vec 1 (ap (4:Int) h) .none)]]∧
 (∀v:Bs,(Bn [[(.val (.int .i64 64)),(.val (.int .i64 1)),(.vec 1 (ap (1:Int) o) .none)], [(.val (.int .i64 64)),(.val (.int .i64 2)),(.vec 1 (ew p) .none)], [(.val (.int .i64 64)),(.val (.int .i64 3)),(.vec 1 (ap (4:Int) h) .none)]] (v)→Q (.vec 1 (v) .none) ⟨[(.cells [(.val (.int .i64 (o))),(.vec 1 (p) .none),(.val (.int .u32 (h))),(.val (.int .i64 (m))),(.val (.bool (hm)))])], []⟩))))))))))))):=by kernel_rfl
theorem Td (o h m o2 h2 m2:Int) (hm hm2:Bool) (p p2:Bs) (Q:TV→VT→Prop):au Tryz.prog ae (aC [(tC,QB)]) (bc [(999998, .dead,none)]) 300 aK 0 yx [.agg [.val (.int .i64 o), .vec 1 p .none, .val (.int .u32 h), .val (.int .i64 m), .val (.bool hm)], .agg [.val (.int .i64 o2), .vec 1 p2 .none, .val (.int .u32 h2), .val (.int .i64 m2), .val (.bool hm2)]] ⟨[], []⟩ Q=
 (bif av BinOp.eql (aP (Value.int IntKind.i64 o) (Value.int IntKind.i64 o2))
 then (bif av BinOp.eql (aP (Value.int IntKind.u32 h) (Value.int IntKind.u32 h2))
 then (bif av BinOp.eql (aP (Value.int IntKind.i64 m) (Value.int IntKind.i64 m2))
 then (bif av BinOp.eql (aP (Value.bool hm) (Value.bool hm2))
 then ((oF (p)∧
 oF (p2))∧
 Q (.val (.bool (Dl p p2))) ⟨[(.cells [(.val (.int .i64 (o))),(.vec 1 (p) .none),(.val (.int .u32 (h))),(.val (.int .i64 (m))),(.val (.bool (hm)))]),(.cells [(.val (.int .i64 (o2))),(.vec 1 (p2) .none),(.val (.int .u32 (h2))),(.val (.int .i64 (m2))),(.val (.bool (hm2)))])], []⟩)
 else Q (.val (.bool false)) ⟨[(.cells [(.val (.int .i64 (o))),(.vec 1 (p) .none),(.val (.int .u32 (h))),(.val (.int .i64 (m))),(.val (.bool (hm)))]),(.cells [(.val (.int .i64 (o2))),(.vec 1 (p2) .none),(.val (.int .u32 (h2))),(.val (.int .i64 (m2))),(.val (.bool (hm2)))])], []⟩)
 else Q (.val (.bool false)) ⟨[(.cells [(.val (.int .i64 (o))),(.vec 1 (p) .none),(.val (.int .u32 (h))),(.val (.int .i64 (m))),(.val (.bool (hm)))]),(.cells [(.val (.int .i64 (o2))),(.vec 1 (p2) .none),(.val (.int .u32 (h2))),(.val (.int .i64 (m2))),(.val (.bool (hm2)))])], []⟩)
 else Q (.val (.bool false)) ⟨[(.cells [(.val (.int .i64 (o))),(.vec 1 (p) .none),(.val (.int .u32 (h))),(.val (.int .i64 (m))),(.val (.bool (hm)))]),(.cells [(.val (.int .i64 (o2))),(.vec 1 (p2) .none),(.val (.int .u32 (h2))),(.val (.int .i64 (m2))),(.val (.bool (hm2)))])], []⟩)
 else Q (.val (.bool false)) ⟨[(.cells [(.val (.int .i64 (o))),(.vec 1 (p) .none),(.val (.int .u32 (h))),(.val (.int .i64 (m))),(.val (.bool (hm)))]),(.cells [(.val (.int .i64 (o2))),(.vec 1 (p2) .none),(.val (.int .u32 (h2))),(.val (.int .i64 (m2))),(.val (.bool (hm2)))])], []⟩):=by kernel_rfl
end
section
open Go.RowKit

theorem jt (l:List Int):yw (iV l)=l:=by
 unfold yw iV
 rw [List.map_map]
 exact (List.map_congr_left fun z _=>rfl).trans (List.map_id _)
theorem Hx {l:List Int} (hn:l.length≤2000000) (K:TV→VT→Prop) (hk:bif rO (iV l) then ∀z:Nat,K (.val (.int .i64 (Int.ofNat z))) ⟨[], []⟩ else K (.val (.int .i64 (-1))) ⟨[], []⟩):VCx Tryz.prog ae 0 tB [.vec 1 (iV l) .none, .fn (.func 169) [] []] ⟨[], []⟩ K:=by
 refine ai ac aa an (Nz hn) (S6 (iV l) (l.all dY) _) ⟨rfl,⟨rfl,rfl,rfl,trivial,rfl,rfl,rfl⟩,fun z=> ?_⟩
 unfold rO at hk
 rw [jt] at hk
 cases h:l.all dY<;>rw [h] at hk
 ·exact hk z
 ·exact hk
theorem QC {l:List Int} (hn:l.length≤2000000):VCx Tryz.prog ae 0 Hr [.vec 1 (iV l) .none, .fn (.func 169) [] []] ⟨[], []⟩ fun x T' =>x= .val (.bool (rO (iV l)))∧T' =⟨[], []⟩:=by
 have hS:aZ Tryz.prog ae (aC [(tB,QA)]):=aJ fun p hp=>by
  obtain rfl:=List.mem_singleton.1 hp
  intro ro ys T K hw
  simp only at hw
  unfold QA at hw
  split at hw
  ·rename_i b tok
   obtain ⟨⟨l,rfl,hn⟩,hk⟩:=hw
   cases h:rO (iV l) with
   | false=>
    rw [h,cond_false] at hk
    exact VCx.loosePure aq (y:= .val (.int .i64 (-1))) (Hx hn _ (by rw [h];exact ⟨rfl,rfl⟩)) (by simp [bG]) (by simp [ar,TV.ren,dd,Tok.ren]) (fun _ _=>rfl) hk
   | true=>
    rw [h,cond_true] at hk
    exact VCx.looseAny aq (Y:=fun y=>∃z:Nat,y= .val (.int .i64 (Int.ofNat z))) (Hx hn _ (by rw [h,cond_true];exact fun z=>⟨⟨z,rfl⟩,rfl⟩)) (by simp [bG]) (by simp [ar,TV.ren,dd,Tok.ren]) (fun y ⟨z,hz⟩ _ _=>by rw [hz];rfl) (fun y ⟨z,hz⟩=>by rw [hz];exact hk z)
  ·exact hw.elim
 refine VCx.keepQ 0 0 (Nat.le_refl _) (Nat.le_refl _) (ai ac aa hS ah (S8 (iV l) _) ⟨⟨l,rfl,hn⟩,am (fun h _=>⟨by rw [h];rfl,rfl⟩) (fun h=>⟨by rw [h];rfl,rfl⟩)⟩)
theorem QD:∀ro ys T K,Li ro ys T K→VCx Tryz.prog ae ro Hr ys T K:=by
 intro ro ys T K hw
 unfold Li at hw
 split at hw
 ·obtain ⟨⟨l,rfl,hn⟩,hk⟩:=hw
  exact VCx.loosePure aq (QC hn) (by simp [bG]) (by simp [ar,TV.ren,dd,Tok.ren]) (fun _ _=>rfl) hk
 ·exact hw.elim
theorem Kj {l:List Int} {j:Nat} (h:j<l.length):eZ (l.take (j+1))=eZ (l.take j)++ap 2 l[j]:=by
 unfold eZ
 rw [List.take_add_one,List.getElem?_eq_getElem h,List.flatMap_append]
 simp
theorem pi:∀l:List Int,(eZ l).length=2*l.length
 | []=>rfl
 | z::l=>by
  have:=pi l
  simp only [eZ,List.flatMap_cons,List.length_append,List.length_cons,aX] at this ⊢
  omega
theorem pj {a b:Bs} (h:IsB a) (k:IsB b) (hl:a.length+b.length≤1000000):IsB (a++b):=by
 obtain ⟨⟨l,rfl,hz⟩,_⟩:=h
 obtain ⟨⟨m,rfl,hy⟩,_⟩:=k
 refine ⟨⟨l++m,by simp [bV],fun z h=> ?_⟩,by rw [List.length_append];exact hl⟩
 rcases List.mem_append.1 h with h | h
 ·exact hz z h
 ·exact hy z h
theorem Bq:∀{l:List Int},l.length≤100→IsB (eZ l)
 | [],_=> .nil
 | z::l,h=>by
  have h1:=Bq (l:=l) (by simp only [List.length_cons] at h;omega)
  have h2:=pi l
  exact pj (b:=eZ l) (cM (k:=2) z (by decide)) h1 (by rw [aX,h2];simp only [List.length_cons] at h;have:Int.toNat 2=2:=rfl;omega)
def kG (n:Int):Bs:=ap 1 2++ap 1 n
theorem Hy (n:Int):IsB (kG n):=pj (cM 2 (by decide)) (cM n (by decide)) (by rw [aX,aX];decide)
theorem sR (n:Int):(kG n).length=2:=by unfold kG;rw [List.length_append,aX,aX];rfl
theorem Hz {l:List Int} (h:l.length≤16):IsB (kG l.length++eZ l):=pj (Hy _) (Bq (by omega)) (by rw [sR,pi];omega)
theorem Kk:aZ Tryz.prog ae (aC [(lX,jr .i64 1),(iC,jr .i64 2)]):=aJ fun p hp=>by
 rcases List.mem_cons.1 hp with rfl | hp;exact Lh
 obtain rfl:=List.mem_singleton.1 hp;exact Hp
theorem NA {l:List Int} (hn:l.length≤16) (ha:l.all dY=true):dD Tryz.prog ae (Ug (kG l.length) (kG l.length++eZ l) (iV l) (aH Tryz.prog rP 0)):=bL fun p hp=>by
  obtain rfl:=List.mem_singleton.1 hp
  refine cA fun K hK=> ?_
  have htk:∀j,IsB (kG l.length++eZ (l.take j)):=fun j=>pj (Hy _) (Bq (by rw [List.length_take];omega)) (by rw [sR,pi,List.length_take];omega)
  have h:=Nt (P:=Tryz.prog) (G:=ae) (f:=rP) (id:=0) (by kernel_rfl) 24 Ht (fun j=>Bp (kG l.length++eZ (l.take j.toNat)) (iV l) j) ⟨[], []⟩ l.length (fun e vs T=>e= .normal∧vs=Bp (kG l.length++eZ l) (iV l) (iV l).length∧T=⟨[], []⟩) (fun j hj=> ?_) K (fun e vs T ⟨h1,h2,h3⟩=>by subst h1 h2 h3;exact hK)
  · have e:kG l.length++eZ (l.take ((0:Nat):Int).toNat)=kG l.length:=List.append_nil _
    simp only [e] at h
    exact h
  · by_cases hlt:j<l.length
    · have hat:(iV l)[((j:Nat):Int).toNat]?=some (iT l[j]):=by rw [Int.toNat_natCast,iV,List.getElem?_map,List.getElem?_eq_getElem hlt];rfl
      have hz:=List.all_eq_true.1 ha _ (List.getElem_mem hlt)
      simp only [dY,Bool.and_eq_true,decide_eq_true_eq] at hz
      refine b7 ac aa Kk ah (Hv (kG l.length++eZ (l.take j)) (iV l) l[j] j _) ?_
      refine aQ (decide_eq_true (by rw [dA];omega)) ⟨ni rfl rfl (by omega) hat,rfl,⟨⟨⟨by omega,by omega⟩,by decide,by decide⟩,htk j,fun h=> ?_⟩,rfl,rfl,hlt, .inl ⟨rfl, ?_⟩⟩
      · have:=congrArg List.length h
        rw [List.length_append,sR] at this;simp at this
      · rw [kz hlt (by omega)]
        show _=Bp (kG l.length++eZ (l.take (j+1))) (iV l) _
        rw [Kj hlt,←List.append_assoc]
        rfl
    · have hj2:j=l.length:=by omega
      subst hj2
      refine b7 ac aa Kk ah (Hv (kG l.length++eZ (l.take l.length)) (iV l) 0 l.length _) ?_
      exact aM (decide_eq_false (by rw [dA];omega)) ⟨rfl,rfl,rfl,by simp only [Bp,dA,List.take_length],rfl⟩
theorem QE {l:List Int} (hn:l.length≤16) (ha:l.all dY=true):VCx Tryz.prog ae 0 rP [.vec 1 (iV l) .none] ⟨[], []⟩ fun x T' =>x= .vec 1 (ew (iV l)) .none∧T' =⟨[], []⟩:=by
 refine VCx.toLe (Q:=fun T' =>T' =⟨[], []⟩) (VCx.keepQ 0 0 (Nat.le_refl _) (Nat.le_refl _) (ai ac aa Kk (NA hn ha) (S9 (kG l.length) (kG l.length++eZ l) (iV l) _) ?_))
 rw [ec,dA]
 cases l with
 | nil=>exact aQ rfl ⟨.nil 1,rfl⟩
 | cons z l=>
  refine aM (decide_eq_false (by simp only [List.length_cons];omega)) ⟨rfl,⟨⟨by decide,by decide⟩,by decide,by decide⟩,rfl,⟨⟨⟨by omega,by omega⟩,by decide,by decide⟩,cM 2 (by decide),fun h=> ?_⟩,rfl,⟨rfl,rfl,rfl,trivial,rfl,rfl,rfl⟩, ?_,rfl⟩
  ·have:=congrArg List.length h;rw [aX] at this;cases this
  ·have e:ew (iV (z::l))=kG (z::l).length++eZ (z::l):=by
    unfold ew;rw [jt,dA];rfl
   rw [e]
   simp only [TV.ren,(Hz hn).ren,Tok.ren]
   exact .refl _
theorem Br {l:List Int} (hn:l.length≤16):IsB (ew (iV l))∧(ew (iV l)).length≤34:=by
 cases l with
 | nil=>exact ⟨.nil,Nat.zero_le _⟩
 | cons z l=>
  have e:ew (iV (z::l))=kG (z::l).length++eZ (z::l):=by
   unfold ew;rw [jt,dA];rfl
  rw [e]
  exact ⟨Hz hn,by rw [List.length_append,sR,pi];omega⟩
theorem QF:∀ro ys T K,Lk ro ys T K→VCx Tryz.prog ae ro rP ys T K:=by
 intro ro ys T K hw
 unfold Lk at hw
 split at hw
 ·obtain ⟨⟨l,rfl,hn,ha⟩,hk⟩:=hw
  exact VCx.loosePure aq (QE hn ha) (by simp [bG]) (by simp [ar,TV.ren,dd,Tok.ren]) (fun f g=>by simp only [TV.ren,(Br hn).1.ren,Tok.ren]) hk
 ·exact hw.elim
end
section
open Go.RowKit

abbrev nC:=Int × Int × Bs
def ju (r:nC):List TV:=E8 r.1 r.2.1 r.2.2
def dF (l:List nC):Bs:=l.flatMap fun r=>cS r.1 r.2.1 r.2.2
theorem sS:∀l:List nC,Qy (l.map ju)=dF l
 | []=>rfl
 | r::l=>by
  have:=sS l
  simp only [Qy,dF,List.map_cons,List.flatMap_cons] at this ⊢
  rw [this];rfl
theorem Do {l:List nC} (h:∀r∈l,jH r.1 r.2.1 r.2.2∧r.2.2.length≤1000) (f g:Nat→Option Nat):bg f g (l.map ju)=l.map ju:=by
 induction l with
 | nil=>rfl
 | cons r l ih=>
  have hb:=(h r List.mem_cons_self).1.2.2.1
  rw [List.map_cons,bg,ih (fun q hq=>h q (List.mem_cons_of_mem _ hq))]
  simp only [ju,E8,ar,TV.ren,hb.ren,Tok.ren]
theorem xk (fl t:Int) (v:Bs):(cS fl t v).length≤v.length+4:=by
 unfold cS yq
 have:=(GS fl v).2
 cases kw fl<;>simp only [cond_true,cond_false,List.length_append,List.length_take,List.length_cons,List.length_nil]<;>omega
theorem sU:∀{l:List nC},(∀r∈l,jH r.1 r.2.1 r.2.2∧r.2.2.length≤1000)→(dF l).length≤1004*l.length
 | [],_=>Nat.zero_le _
 | r::l,h=>by
  have h1:=sU (l:=l) fun q hq=>h q (List.mem_cons_of_mem _ hq)
  have h2:=(h r List.mem_cons_self).2
  have h3:=xk r.1 r.2.1 r.2.2
  simp only [dF,List.flatMap_cons,List.length_append,List.length_cons] at h1 ⊢
  omega
theorem pk:∀{l:List nC},(∀r∈l,jH r.1 r.2.1 r.2.2∧r.2.2.length≤1000)→l.length≤10→IsB (dF l)
 | [],_,_=> .nil
 | r::l,h,hl=>by
  have hq:∀q∈l,jH q.1 q.2.1 q.2.2∧q.2.2.length≤1000:=fun q hq=>h q (List.mem_cons_of_mem _ hq)
  simp only [List.length_cons] at hl
  have h1:=pk (l:=l) hq (by omega)
  obtain ⟨⟨_,_,hb,hv⟩,h2⟩:=h r List.mem_cons_self
  have h3:=xk r.1 r.2.1 r.2.2
  have h4:=sU hq
  exact pj (b:=dF l) (nk (fl:=r.1) (t:=r.2.1) hb hv) h1 (by show (cS r.1 r.2.1 r.2.2).length+(dF l).length≤_;omega)
theorem Kl {l:List nC} {j:Nat} (h:j<l.length):dF (l.take (j+1))=dF (l.take j)++cS l[j].1 l[j].2.1 l[j].2.2:=by
 unfold dF
 rw [List.take_add_one,List.getElem?_eq_getElem h,List.flatMap_append]
 simp
theorem NB:∀ro ys T K,Fa ro ys T K→VCx Tryz.prog ae ro oD ys T K:=by
 intro ro ys T K hw
 unfold Fa at hw
 split at hw
 ·rename_i fl t v
  obtain ⟨⟨h1,h2,hv,hl⟩,hk⟩:=hw
  have hb:=nk (fl:=fl) (t:=t) hv hl
  refine VCx.liftPure (xs:= [jG fl t v]) aq ?_ ?_ (fun f g=>by simp only [TV.ren,Qx,hb.ren,Tok.ren]) hk
  ·cases v with
   | nil=>exact A6 fl t
   | cons r v=>exact C2 fl t hv hl
  ·simp only [ar,jG,TV.ren,hv.ren,Tok.ren]
 ·exact hw.elim
theorem yy:∃(inf:TypeInfo) (z:Value),Tryz.prog.info? 204=some inf∧inf.size=3∧inf.bytes+1≤1000∧inf.zero=some z∧z.cells.size=3:=
 ⟨(Tryz.prog.info? 204).getD default,((Tryz.prog.info? 204).getD default).zero.getD default,by kernel_rfl,by kernel_rfl,Nat.le_of_ble_eq_true (by kernel_rfl),by kernel_rfl,by kernel_rfl⟩
theorem HA {x i:Operand} {l:List (Nat × TV)} {es:Bs} {tok:Tok} {k:IntKind} {z:Int} {cs:List TV} (hx:aS ae l x= .vec 3 es tok) (hz:aS ae l i= .val (.int k z)) (h0:0≤z) (he:es[z.toNat]?=some cs):bo Tryz.prog ae (.indexAddr 199 x i) l (.elt cs):=by
 obtain ⟨inf,_,i1,i2,_,_,_⟩:=yy
 exact gO (inf:=inf) Tryz.underlying199 i1 (by rw [i2];exact hx) hz h0 he
theorem NC {l:List nC} (h:∀r∈l,jH r.1 r.2.1 r.2.2∧r.2.2.length≤1000) (hl:l.length≤10):dD Tryz.prog ae (Uh (dF l) (l.map ju) (aH Tryz.prog rQ 0)):=bL fun p hp=>by
  obtain rfl:=List.mem_singleton.1 hp
  have hS:aZ Tryz.prog ae (aC [(oD,Fa)]):=aJ fun p hp=>by obtain rfl:=List.mem_singleton.1 hp;exact NB
  have hq:∀j,∀r∈l.take j,jH r.1 r.2.1 r.2.2∧r.2.2.length≤1000:=fun j r hr=>h r (List.mem_of_mem_take hr)
  refine Am fun K hK=> ?_
  refine dS (f:=rQ) (id:=0) (by kernel_rfl) 18 Hu (fun j:Nat=>l.length-j) (fun j:Nat=>Dn (dF (l.take j)) (l.map ju) j) (fun j=>⟨[], [((dF (l.take j)).length,1,true)]⟩) (fun j=>j≤l.length) 0 1 (fun _ _=>⟨Nat.le_refl _,Nat.le_refl _⟩)
    (fun e vs T=>e= .normal∧vs=Dn (dF l) (l.map ju) (l.map ju).length∧T=⟨[], [((dF l).length,1,true)]⟩) (fun j hj=> ?_) 0 (Nat.zero_le _) K ?_
  · by_cases hlt:j<l.length
    · have hat:(l.map ju)[((j:Nat):Int).toNat]?=some (ju l[j]):=by rw [Int.toNat_natCast,List.getElem?_map,List.getElem?_eq_getElem hlt];rfl
      have hp:=h _ (List.getElem_mem hlt)
      have hb1:=sU (hq j)
      have hb2:=xk l[j].1 l[j].2.1 l[j].2.2
      rw [List.length_take] at hb1
      have ht:=xj [.cells (ju l[j])] (dF (l.take j)) (cS l[j].1 l[j].2.1 l[j].2.2) (by omega) 12 14 rfl
      rw [←Kl hlt] at ht
      refine b7 ac aa hS ah (Hw (dF (l.take j)) (dF (l.take (j+1))) (l.map ju) l[j].2.2 l[j].1 l[j].2.1 j _) ?_
      refine aQ (decide_eq_true (by rw [List.length_map];omega)) ⟨HA rfl rfl (by omega) hat,hp.1,ht,rfl,rfl,j+1,hlt,by show l.length-(j+1)<l.length-j;omega, .inr ⟨rfl, ?_⟩⟩
      simp only [ar,TV.ren,Do h,(pk (hq (j+1)) (by rw [List.length_take];omega)).ren,Tok.ren]
      rw [kz hlt (by omega)]
      rfl
    · have hj2:j=l.length:=by omega
      refine b7 ac aa hS ah (Hw (dF (l.take j)) [] (l.map ju) [] 0 0 j _) ?_
      subst hj2
      exact aM (decide_eq_false (by rw [List.length_map];omega)) ⟨rfl,rfl,rfl,by simp only [Dn,List.length_map,List.take_length],by rw [List.take_length]⟩
  · rintro e vs T ⟨rfl,rfl,rfl⟩
    exact hK
theorem QG {l:List nC} (h:∀r∈l,jH r.1 r.2.1 r.2.2∧r.2.2.length≤1000) (hl:l.length≤10):VCx Tryz.prog ae 0 rQ [.vec 3 (l.map ju) .none] ⟨[], []⟩ fun x T' =>x= .vec 1 (dF l) .none∧T' =⟨[], []⟩:=by
 refine VCx.toLe (Q:=fun T' =>T' =⟨[], []⟩) (VCx.keepQ 0 0 (Nat.le_refl _) (Nat.le_refl _) (ai ac aa an (NC h hl) (Ta (dF l) (l.map ju) _) ⟨rfl,⟨rfl,rfl,rfl,⟨rfl,trivial⟩,rfl,rfl,rfl⟩, ?_,rfl⟩))
 simp only [TV.ren,(pk h hl).ren]
 exact .vec 1 _ _
theorem QH:∀ro ys T K,Lj ro ys T K→VCx Tryz.prog ae ro rQ ys T K:=by
 intro ro ys T K hw
 unfold Lj at hw
 split at hw
 ·obtain ⟨⟨l,rfl,hl,h⟩,hk⟩:=hw
  have hb:=pk h hl
  exact VCx.loosePure (xs:= [.vec 3 (l.map ju) .none]) aq (QG h hl) (by simp [bG,ju]) (by simp only [ar,TV.ren,Do h,Tok.ren]) (fun f g=>by simp only [TV.ren,hb.ren,Tok.ren]) (hk _ (sS l).symm)
 ·exact hw.elim
theorem AtV.ren (a:AtV) (f g:Nat→Option Nat):ar f g a.cells=a.cells:=by
 simp only [AtV.cells,ar,TV.ren,dd,Tok.ren]
theorem QI:aZ Tryz.prog ae (aC [(Hr,Li),(uc,ue)]):=aJ fun p hp=>by
 rcases List.mem_cons.1 hp with rfl | hp;exact QD
 obtain rfl:=List.mem_singleton.1 hp;exact C1 C0
set_option maxHeartbeats 1000000 in
theorem QJ (a:AtV) (hn:a.p.length≤2000000):VCx Tryz.prog ae 0 Bo [.agg a.cells] ⟨[], []⟩ fun x T' =>x= .val (.bool (ig a))∧T' =⟨[], []⟩:=by
 refine VCx.keepQ 0 0 (Nat.le_refl _) (Nat.le_refl _) (ai ac aa QI ah (Tb a.o a.h a.m a.hm (iV a.p) _) ?_)
 have hcf:rO (iV a.p)= !a.p.all dY:=by unfold rO;rw [jt]
 rw [ec,dA,hcf]
 have hw:oF (iV a.p):=⟨a.p,rfl,hn⟩
 have fin:∀(b:Bool) (T:VT),ig a=b→((TV.val (.bool b)).ren (aw 0) (aw 0)= .val (.bool (ig a))∧T.keep 0 0=⟨[], []⟩):=fun b T h=>⟨by rw [h];rfl,by simp [VT.keep]⟩
 by_cases h1:a.o<0
 ·exact aQ (decide_eq_true h1) (fin false _ (by unfold ig;rw [decide_eq_false (show ¬0≤a.o by omega)];rfl))
 have e1:decide (0≤a.o)=true:=decide_eq_true (by omega)
 refine aM (decide_eq_false h1) ?_
 by_cases h2:a.o>2
 ·exact aQ (decide_eq_true h2) (aQ (decide_eq_true h2) (fin false _ (by unfold ig;rw [e1,decide_eq_false (show ¬a.o≤2 by omega)];rfl)))
 have e2:decide (a.o≤2)=true:=decide_eq_true (by omega)
 refine aM (decide_eq_false h2) ?_
 cases h3:nj a.h
 ·exact aQ rfl (fin false _ (by unfold ig;rw [e1,e2,h3];rfl))
 refine aM rfl ?_
 by_cases h4:((a.p.length:Nat):Int)>16
 ·exact aQ (decide_eq_true h4) (aQ (decide_eq_true h4) (fin false _ (by unfold ig;rw [e1,e2,h3,decide_eq_false (show ¬a.p.length≤16 by omega)];rfl)))
 have e4:decide (a.p.length≤16)=true:=decide_eq_true (by omega)
 refine aM (decide_eq_false h4) ⟨hw, ?_⟩
 cases h5:a.p.all dY
 ·exact aQ rfl (fin false _ (by unfold ig;rw [e1,e2,h3,e4,h5];rfl))
 refine aM rfl ?_
 cases h6:a.hm
 ·exact aQ rfl (fin _ _ (by unfold ig;rw [e1,e2,h3,e4,h5,h6];rfl))
 refine aM rfl (am (fun h7=> ?_) (fun h7=> ?_))
 ·exact fin _ _ (by unfold ig;rw [e1,e2,h3,e4,h5,h6,show decide (0≤a.m)=true from h7];rfl)
 ·exact fin false _ (by unfold ig;rw [e1,e2,h3,e4,h5,h6,show decide (0≤a.m)=false from h7];rfl)
def eS (a:AtV):List nC:= [(64,1,ap 1 a.o),(64,2,ew (iV a.p)),(64,3,ap 4 a.h)]++bif a.hm then [(128,4,ap 4 a.m)] else []
def nD (a:AtV):Bs:=bif ig a then dF (eS a) else []
structure Ll (a:AtV):Prop where
 o:0≤a.o∧a.o≤2
 h:nj a.h=true
 p:a.p.length≤16∧a.p.all dY=true
 m:a.hm=true→0≤a.m∧a.m≤4294967295
 m0:a.hm=false→a.m=0
theorem vX {a:AtV} (h:ig a=true):Ll a:=by
 unfold ig at h
 simp only [Bool.and_eq_true,decide_eq_true_eq] at h
 obtain ⟨h1,h2,h3,h4,h5,h6⟩:=h
 refine ⟨⟨h1,h2⟩,h3,⟨h4,h5⟩,fun h=> ?_,fun h=> ?_⟩
 ·rw [h] at h6
  simp only [cond_true,Bool.and_eq_true,decide_eq_true_eq] at h6
  exact h6
 ·rw [h] at h6
  simp only [cond_false,decide_eq_true_eq] at h6
  exact h6
theorem Bt {a:AtV} (h:Ll a):(∀r∈eS a,jH r.1 r.2.1 r.2.2∧r.2.2.length≤1000)∧(eS a).length≤10:=by
 have b1:∀(fl t:Nat) (k n:Int),fl<256→t<256→k≤8→jH fl t (ap k n)∧(ap k n).length≤1000:=fun fl t k n h1 h2 h3=>⟨⟨⟨by omega,by omega⟩,⟨by omega,by omega⟩,cM n h3,by rw [aX];omega⟩,by rw [aX];omega⟩
 have hs:=Br h.p.1
 refine ⟨fun r hr=> ?_,by unfold eS;cases a.hm<;>simp⟩
 unfold eS at hr
 rcases List.mem_append.1 hr with hr | hr
 ·simp only [List.mem_cons,List.not_mem_nil,or_false] at hr
  rcases hr with rfl | rfl | rfl
  ·exact b1 64 1 1 _ (by decide) (by decide) (by decide)
  ·exact ⟨⟨⟨by show (0:Int)≤64;decide,by show (64:Int)<256;decide⟩,⟨by show (0:Int)≤2;decide,by show (2:Int)<256;decide⟩,hs.1,by have:=hs.2;show (ew (iV a.p)).length≤_;omega⟩,by have:=hs.2;show (ew (iV a.p)).length≤_;omega⟩
  ·exact b1 64 3 4 _ (by decide) (by decide) (by decide)
 ·cases hm:a.hm<;>rw [hm] at hr
  ·cases hr
  ·obtain rfl:=List.mem_singleton.1 hr
   exact b1 128 4 4 _ (by decide) (by decide) (by decide)
theorem Bu (a:AtV):IsB (nD a):=by
 unfold nD
 cases h:ig a
 ·exact .nil
 ·have:=Bt (vX h)
  exact pk this.1 this.2
theorem Dp (a:AtV):(nD a).length≤10040:=by
 unfold nD
 cases h:ig a
 ·exact Nat.zero_le _
 ·have:=Bt (vX h)
  have h2:=sU this.1
  have h3:=this.2
  simp only [cond_true];omega
theorem Km (objs:List VO) (A c:Bs) (hc:A.length+c.length≤1000):ba Tryz.prog ae 0 ⟨objs, []⟩ (.call ⟨.builtin .append, #[.tmp 22, .tmp 28], #[199,199]⟩) [(22, .vec 3 A .full),(28, .vec 3 c .full)] (.vec 3 (A++c) (.tail 0 c.length)) ⟨objs, [(c.length,3,false)]⟩:=by
  obtain ⟨inf,z,i1,i2,i3,i4,i5⟩:=yy
  have h1:=gj (inf:=inf) (P:=Tryz.prog) (G:=ae) (ro:=0) (T:=⟨objs, []⟩) (T1:=⟨objs, [(0,3,false)]⟩) (t:=199) (tx:=199) (s:= .tmp 22) (x:= .tmp 28) (l:= [(22, .vec 3 A .full),(28, .vec 3 c .full)]) (es:=A) (es2:=c) (k:=0) (n:=0) (bn:=false) Tryz.underlying199 i1 i4 (by rw [i2];exact i5) (by rw [i2];decide) (by kernel_rfl)
    (by rw [i2];simp [aS,ea,cZ]) (by rw [i2];rfl)
    (by have h1:=i3
        have h2:=Nat.mul_le_mul (show A.length+c.length≤2000001 by omega) h1
        omega)
  rw [i2,Nat.zero_add] at h1
  exact h1
theorem Dq {n:Int} (h0:0≤n) (h1:n≤4294967295):IntKind.u32.wrap n=n:=by
 simp only [IntKind.wrap,IntKind.bits,IntKind.signed];simp;omega
theorem HC (ok:Bool):∀ro ys T K,Dm ok ro ys T K→VCx Tryz.prog ae ro Bo ys T K:=by
 intro ro ys T K hw
 unfold Dm at hw
 split at hw
 ·obtain ⟨⟨a,rfl,hn,rfl⟩,hk⟩:=hw
  exact VCx.liftPure aq (QJ a hn) (by simp only [ar,TV.ren,a.ren]) (fun _ _=>rfl) hk
 ·exact hw.elim
theorem QK (a:AtV) (hn:a.p.length≤2000000) (hh:0≤a.h∧a.h<4294967296):VCx Tryz.prog ae 0 Hs [.agg a.cells] ⟨[], []⟩ fun x T' =>x= .vec 1 (nD a) .none∧T' =⟨[], []⟩:=by
  have hS:aZ Tryz.prog ae (aC [(Bo,Dm (ig a)),(lX,jr .i64 1),(p9,jr .u32 4),(rP,Lk),(rQ,Lj)]):=aJ fun p hp=>by
    rcases List.mem_cons.1 hp with rfl | hp;exact HC _
    rcases List.mem_cons.1 hp with rfl | hp;exact Lh
    rcases List.mem_cons.1 hp with rfl | hp;exact Bl
    rcases List.mem_cons.1 hp with rfl | hp;exact QF
    obtain rfl:=List.mem_singleton.1 hp;exact QH
  refine VCx.toLe (Q:=fun T' =>T' =⟨[], []⟩) (VCx.keepQ 0 0 (Nat.le_refl _) (Nat.le_refl _) (ai ac aa hS ah (Tc a.o a.h a.m a.hm (ig a) (iV a.p) ((eS a).map ju) _) ⟨⟨a,rfl,hn,rfl⟩, ?_⟩))
  cases hg:ig a
  · refine aQ rfl ⟨?_,by simp [VT.keep]⟩
    unfold nD;rw [hg];exact .nil 1
  · have hA:=vX hg
    have hr:=Bt hA
    have hb:=pk hr.1 hr.2
    have e:nD a=dF (eS a):=by unfold nD;rw [hg];rfl
    have hend:∀T:VT,TVle ((TV.vec 1 (dF (eS a)) .none).ren (aw 0) (aw 0)) (.vec 1 (nD a) .none)∧T.keep 0 0=⟨[], []⟩:=fun T=>⟨by rw [e];simp only [TV.ren,hb.ren,Tok.ren];exact .refl _,by simp [VT.keep]⟩
    have hjd:E9 ((eS a).map ju):=⟨eS a,rfl,hr.2,hr.1⟩
    refine aM rfl ⟨rfl,⟨⟨hA.o.1,by have:=hA.o.2;omega⟩,by decide,by decide⟩,⟨rfl,rfl,rfl,trivial⟩,⟨a.p,rfl,hA.p.1,hA.p.2⟩,⟨rfl,rfl,rfl,trivial⟩,rfl,⟨⟨hh.1,by omega⟩,by decide,by decide⟩, ?_⟩
    cases hm:a.hm
    · have e2:(eS a).map ju= [[.val (.int .i64 64), .val (.int .i64 1), .vec 1 (ap 1 a.o) .none], [.val (.int .i64 64), .val (.int .i64 2), .vec 1 (ew (iV a.p)) .none], [.val (.int .i64 64), .val (.int .i64 3), .vec 1 (ap 4 a.h) .none]]:=by unfold eS;rw [hm];rfl
      rw [e2] at hjd
      refine aM rfl ⟨hjd,fun v hv=> ?_⟩
      rw [←e2] at hv
      unfold Bn at hv
      rw [sS] at hv
      subst hv
      exact hend _
    · have hm2:=hA.m hm
      refine aQ rfl ⟨rfl, ?_⟩
      rw [Dq hm2.1 hm2.2]
      have e2:(eS a).map ju= [[.val (.int .i64 64), .val (.int .i64 1), .vec 1 (ap 1 a.o) .none], [.val (.int .i64 64), .val (.int .i64 2), .vec 1 (ew (iV a.p)) .none], [.val (.int .i64 64), .val (.int .i64 3), .vec 1 (ap 4 a.h) .none]]++ [[.val (.int .i64 128), .val (.int .i64 4), .vec 1 (ap 4 a.m) .none]]:=by unfold eS;rw [hm];rfl
      refine ⟨⟨⟨hm2.1,by omega⟩,by decide,by decide⟩, ?_,hjd,fun v hv=> ?_⟩
      · rw [e2]
        exact Km _ _ _ (by show 3+1≤1000;decide)
      · unfold Bn at hv
        rw [sS] at hv
        subst hv
        exact hend _
theorem HD (a b:AtV) (hn:a.p.length≤2000000) (hn2:b.p.length≤2000000):VCx Tryz.prog ae 0 yx [.agg a.cells, .agg b.cells] ⟨[], []⟩ fun x T' =>x= .val (.bool (decide (a=b)))∧T' =⟨[], []⟩:=by
 have hS:aZ Tryz.prog ae (aC [(tC,QB)]):=aJ fun p hp=>by
  obtain rfl:=List.mem_singleton.1 hp
  intro ro ys T K hw
  simp only at hw
  unfold QB at hw
  split at hw
  ·obtain ⟨⟨⟨l,rfl,hn⟩,⟨m,rfl,hn2⟩⟩,hk⟩:=hw
   have e:Dl (iV l) (iV m)=decide (l=m):=by unfold Dl;rw [jt,jt]
   rw [e] at hk
   exact VCx.loosePure aq (Qu hn) (by simp [bG]) (by simp [ar,TV.ren,dd,Tok.ren]) (fun _ _=>rfl) hk
  ·exact hw.elim
 have e:Dl (iV a.p) (iV b.p)=decide (a.p=b.p):=by unfold Dl;rw [jt,jt]
 refine VCx.keepQ 0 0 (Nat.le_refl _) (Nat.le_refl _) (ai ac aa hS ah (Td a.o a.h a.m b.o b.h b.m a.hm b.hm (iV a.p) (iV b.p) _) ?_)
 have fin:∀(q:Bool) (T:VT),decide (a=b)=q→((TV.val (.bool q)).ren (aw 0) (aw 0)= .val (.bool (decide (a=b)))∧T.keep 0 0=⟨[], []⟩):=fun b T h=>⟨by rw [h];rfl,by simp [VT.keep]⟩
 have ne:∀{X:Prop},(a=b→X)→¬X→decide (a=b)=false:=fun h k=>decide_eq_false fun c=>k (h c)
 rw [ec,ec,ec,e]
 refine am (fun c1=>am (fun c2=>am (fun c3=>am (fun c4=> ?_) (fun c4=> ?_)) (fun c3=> ?_)) (fun c2=> ?_)) (fun c1=> ?_)
 ·refine ⟨⟨⟨_,rfl,hn⟩,⟨_,rfl,hn2⟩⟩,fin _ _ ?_⟩
  have d1:=of_decide_eq_true c1
  have d2:=of_decide_eq_true c2
  have d3:=of_decide_eq_true c3
  have d4:a.hm=b.hm:=by simpa [av,aP,ci] using c4
  refine decide_eq_decide.2 ⟨fun h=>by rw [h],fun hp=> ?_⟩
  obtain ⟨o,p,h,m,hm⟩:=a
  obtain ⟨o2,p2,h2,m2,hm2⟩:=b
  simp only [AtV.mk.injEq]
  exact ⟨d1,hp,d2,d3,d4⟩
 ·exact fin false _ (ne (X:=a.hm=b.hm) (fun h=>by rw [h]) (fun h=>by rw [h] at c4;simp [av,aP,ci] at c4))
 ·exact fin false _ (ne (X:=a.m=b.m) (fun h=>by rw [h]) (of_decide_eq_false c3))
 ·exact fin false _ (ne (X:=a.h=b.h) (fun h=>by rw [h]) (of_decide_eq_false c2))
 ·exact fin false _ (ne (X:=a.o=b.o) (fun h=>by rw [h]) (of_decide_eq_false c1))
end
section
open Go.RowKit

section
variable {P:Program} {G:aU}
theorem VCx.ofOwnT {f:FuncId} {xs:List TV} {ty:TypeId} {vs:List Value} (h1:∀v∈vs,v.oneCell' =true) (hm:vs.length≤maxLen)
    (h:∀g w us,VRs g w xs us→Calls P f us.toArray w (Rets w fun v w' =>w'.ownsRow w.heap.size ty 1 v vs.length vs)):VCx P G 0 f xs ⟨[], []⟩ fun x T' =>x= .vec 1 (vs.map fun v=> [.val v]) (.tail 0 0)∧T' =⟨[], [(0,1,false)]⟩:=by
  intro g w us r hG hx
  refine (h g w us hx).mono ?_
  rintro e w' ⟨v,rfl,gr,hl,hown⟩
  have r1:=r.gr gr
  have e1:=Evo.of_gr r gr
  rcases hown with ⟨rfl,h0⟩ | ⟨b,cap,cur,rfl,hb,hg,hnc,hcm,hcs,htk⟩
  · have:vs= []:=List.eq_nil_of_length_eq_zero (by omega)
    subst this
    obtain ⟨g2,e2,r2,h2⟩:=r1.newTail 1 false
    exact ⟨_,_,g2,_,rfl,⟨rfl,rfl⟩,e1.trans e2,r2, .nil ⟨_,h2,Nat.le_refl _,rfl⟩,⟨by simp,fun i hi=>absurd hi (Nat.not_lt_zero i),fun i o b hi=>absurd hi (Nat.not_lt_zero i)⟩⟩
  · have fs:=r.fresh hb
    have hcell:∀(j:Nat) u,vs[j]?=some u→w'.cell? ⟨b,0+j,none⟩=some u:=fun j u hu=>by
      have hj:=(List.getElem?_eq_some_iff.1 hu).1
      unfold World.cell?
      simp only [hg,Nat.zero_add]
      rw [←htk,List.getElem?_take,if_pos (by omega)] at hu
      simpa using hu
    have hsz:cur.size=cap:=by simpa using hcs
    have hnone:∀k,g.tail k=none:=fun k=>r1.tout k (Nat.zero_le _)
    obtain ⟨x,hxd⟩:∃x:Tl,x=⟨b,vs.length,cap,1,0,ty,w'.heap.size,false,false⟩:=⟨_,rfl⟩
    have hgrow:∀y,g.tail 0=some y→y.e<x.e∧x.size=y.size∧x.lo=y.lo:=fun y hy=>by rw [hnone] at hy;cases hy
    have hlo:g.tail 0=none→w'.heap.size≤x.lo:=fun _=>by rw [hxd];exact Nat.le_refl _
    have hfz:∀o,o<cap→(w'.cell? ⟨b,o,none⟩).isSome=true∧w'.frozen? ⟨b,o,none⟩=false:=fun o ho=>by
      refine ⟨?_,by simp [World.frozen?,hg]⟩
      unfold World.cell?
      simp only [hg]
      rw [Array.getElem?_eq_getElem (by omega)];rfl
    have r2:=r1.setTail (T' :=⟨[], [(0,1,false)]⟩) (k:=0) (x:=x) rfl (.inl ⟨by rw [hxd];rfl,rfl⟩)
      (fun c o hin=>by
        rw [hxd] at hin
        obtain ⟨rfl,h2,h3⟩:=hin
        exact ⟨(hfz o h3).1,(hfz o h3).2,fs.st o,fs.fr⟩)
      (fun i oi c hi=>by simp at hi) (fun j y c _ hy=>by rw [hnone] at hy;cases hy) hgrow hlo
      (fun ho=>by rw [hxd] at ho;cases ho) (fun ho=>by rw [hxd] at ho;rcases ho with ho | ho<;>cases ho) (by rw [hxd];exact Nat.le_refl _)
    have e2:=e1.trans (Evo.setTail (w:=w') (x:=x) hgrow hlo)
    have r3:=r2.addSt (b:=b) (S:=fun o=>o<vs.length) fs.fr (fun id o hi=>by simp at hi)
      (fun k y o hy ho hin=>by
        by_cases hk:k=0
        · subst hk
          rw [md] at hy
          injection hy with hy
          rw [←hy,hxd] at hin
          have:=hin.2.1
          simp only at this
          omega
        · have:g.tail k=some y:=by simpa [Gh.setTail,hk] using hy
          rw [hnone] at this;cases this)
      (fun o ho=>(hfz o (by omega)).1)
    have e3:=e2.trans (Evo.addSt (w:=w') (b:=b) (S:=fun o=>o<vs.length) (show ¬(g.setTail 0 x).fr b from fs.fr))
    refine ⟨_,_,_,_,rfl,⟨rfl,rfl⟩,e3,r3, ?_,⟨by simp,fun i hi=>absurd hi (Nat.not_lt_zero i),fun i o b hi=>absurd hi (Nat.not_lt_zero i)⟩⟩
    refine .mk_vec (us:=vs) (by simp) (by simpa using hnc) hcm (fun e he=>by obtain ⟨v,_,rfl⟩:=List.mem_map.1 he;rfl)
      ⟨x,md g 0 x,Nat.zero_le _,by rw [hxd],fun _ _=>by rw [hxd];exact ⟨rfl,by simp,by simp⟩,fun _ hbn=>by rw [hxd] at hbn;cases hbn⟩
      (by rw [ki];exact VRs.vals _ _ _) (fun j hj=> .inr ⟨rfl, ?_⟩) hcell h1
    rw [ki] at hj
    simpa using hj
theorem VCx.ofOwnAt {ro:Nat} {f:FuncId} {xs:List TV} {T:VT} {ty:TypeId} {vs:List Value} (h1:∀v∈vs,v.oneCell' =true) (hm:vs.length≤maxLen)
    (h:∀g w us,RW g T w→VRs g w xs us→Calls P f us.toArray w (Rets w fun v w' =>w'.ownsRow w.heap.size ty 1 v vs.length vs)):VCx P G ro f xs T fun x T' =>x= .vec 1 (vs.map fun v=> [.val v]) .none∧T' =T:=by
  intro g w us r hG hx
  refine (h g w us r hx).mono ?_
  rintro e w' ⟨v,rfl,gr,hl,hown⟩
  have r1:=r.gr gr
  have e1:=Evo.of_gr r gr
  have hfix:Fix ro g T w T w' :=Fix.of_same (Same.of_gr r gr) (List.take_length ..)
  rcases hown with ⟨rfl,h0⟩ | ⟨b,cap,cur,rfl,hb,hg,hnc,hcm,hcs,htk⟩
  · have:vs= []:=List.eq_nil_of_length_eq_zero (by omega)
    subst this
    exact ⟨_,_,g,_,rfl,⟨rfl,rfl⟩,e1,r1, .nil trivial,hfix⟩
  · have fs:=r.fresh hb
    have hcell:∀(j:Nat) u,vs[j]?=some u→w'.cell? ⟨b,0+j,none⟩=some u:=fun j u hu=>by
      have hj:=(List.getElem?_eq_some_iff.1 hu).1
      unfold World.cell?
      simp only [hg,Nat.zero_add]
      rw [←htk,List.getElem?_take,if_pos (by omega)] at hu
      simpa using hu
    refine ⟨_,_,g.addSt b (fun o=>o<vs.length),_,rfl,⟨rfl,rfl⟩,e1.trans (Evo.addSt fs.fr),r1.addSt fs.fr fs.obj (fun k x o hx ho hin=>fs.tl k x hx (.inl ⟨o,hin⟩)) (fun o ho=> ?_), ?_,hfix⟩
    · have:=hcell o _ (List.getElem?_eq_getElem ho)
      rw [Nat.zero_add] at this
      rw [this];rfl
    · refine .mk_vec (us:=vs) (by simp) (by simpa using hnc) hcm (fun e he=>by obtain ⟨v,_,rfl⟩:=List.mem_map.1 he;rfl) trivial (by rw [ki];exact VRs.vals _ _ _) (fun j hj=> .inr ⟨rfl, ?_⟩) hcell h1
      rw [ki] at hj
      simpa using hj
theorem Te {g:Gh} {T:VT} {w:World} {i n:Nat} {vs:List Value} {v:Value} (r:RW g T w) (ho:T.objs[i]?=some (.cells (vs.map .val))) (hv:VR g w (.sl i 0 n n) v) (hn:n=vs.length) (hm:n≤maxLen):Rd w 1 v n vs:=by
  subst hn
  obtain ⟨b,hb,rfl⟩:=hv.sl_inv
  obtain ⟨b',h1,⟨us,t,h2,h3,h4⟩,_⟩:=r.obj i _ ho rfl
  rw [hb] at h1;injection h1 with h1;subst h1
  have hlen:us.length=vs.length:=by have:=h3.1;simpa using this
  have hu:us=vs:=by
    refine List.ext_getElem? fun j=> ?_
    by_cases hj:j<us.length
    · have hx:(vs.map TV.val)[j]?=some (.val (vs[j]'(by omega))):=by rw [List.getElem?_map,List.getElem?_eq_getElem (by omega)];rfl
      have:=(h3.2 j _ us[j] hx (List.getElem?_eq_getElem hj)).val_inv
      rw [List.getElem?_eq_getElem hj,List.getElem?_eq_getElem (by omega),this]
    · rw [List.getElem?_eq_none (by omega),List.getElem?_eq_none (by omega)]
  subst hu
  refine ⟨by simp,_,us.length,rfl,Nat.le_refl _,hm,(fun h=>by cases h),fun ad ha=> ?_⟩
  injection ha with ha;subst ha
  refine ⟨rfl,fun j u hu=> ?_⟩
  show w.cell? ⟨b,0+j,none⟩=some u
  unfold World.cell?
  simp only [h2,Nat.zero_add]
  simpa using hu
theorem gz {T:VT} {size id n:Nat} {es:List (List TV)} (ho:T.objs[id]?=some (.row es.flatten)) (hz:∀e∈es,e.length=size) (hn:n=es.length):vn (.row size id 0 n) T=some (size,es):=by
 subst hn
 have hfl:es.flatten.length=es.length*size:=bJ hz
 have hb:Nat.ble ((0+es.length)*size) es.flatten.length=true:=by rw [hfl,Nat.zero_add];exact Nat.ble_eq_true_of_le (Nat.le_refl _)
 simp only [vn,bQ,ho,Nat.beq_refl,hb,Bool.and_self,cond_true,Nat.zero_mul,List.drop_zero]
 rw [List.take_of_length_le (by omega),kT size hz]
 rfl
theorem VCx.argsLe {ro:Nat} {f:FuncId} {xs ys:List TV} {T:VT} {Q:TV→VT→Prop} (hle:TVleL ys xs) (h:VCx P G ro f xs T Q):VCx P G ro f ys T Q:=fun g w us r hG hx=>h g w us r hG (hle.vrs hx)
theorem VCx.liftTail {ro:Nat} {f:FuncId} {xs ys:List TV} {T:VT} {b:List (List TV)} {K:TV→VT→Prop} (hv:dl G) (h:VCx P G 0 f xs ⟨[], []⟩ fun x T' =>x= .vec 1 b (.tail 0 0)∧T' =⟨[], [(0,1,false)]⟩) (hx:ar (bb []) (bb []) ys=xs) (hy:∀f h,bg f h b=b) (k:K (.vec 1 b (.tail T.tails.length 0)) {T with tails:=T.tails++ [(0,1,false)]}):VCx P G ro f ys T K:=by
 refine (VCx.lift (T:=T) [] [] hv List.nodup_nil List.nodup_nil (by simp) (by simp) (by simp) hx (by rw [VT.give_nil];exact h) (fun _ _ _=>⟨Nat.zero_le _,Nat.zero_le _⟩)).mono ?_
 rintro z T' ⟨x,T'',⟨rfl,rfl⟩,rfl,rfl⟩
 rw [VT.back_nil]
 simpa [TV.ren,Tok.ren,hy,bf] using k
theorem VCx.keepV {f:FuncId} {xs:List TV} {Q:TV→Prop} (h:VCx P G 0 f xs ⟨[], []⟩ fun x _=>Q (x.ren (aw 0) (aw 0))):VCx P G 0 f xs ⟨[], []⟩ fun x T' =>Q x∧T' =⟨[], []⟩:=
 VCx.keepQ 0 0 (Nat.le_refl _) (Nat.le_refl _) (h.mono fun _ _ hq=>⟨hq,by simp [VT.keep]⟩)
theorem VCx.atKeep {f:FuncId} {ro i:Nat} {ys0 ys1:List TV} {o:VO} {T:VT} {K:TV→VT→Prop} {R:TV→Prop} (hG:dl G) (hro:ro≤i) (ho:T.objs[i]?=some o) (hl:o.live=true) (hren:∀f g,o.ren f g=o) (hy:TVleL (ar (bb [i]) (bb []) ys0) ys1)
  (hv:VCx P G 0 f ys1 ⟨[o], []⟩ fun x T' =>R x∧T' =⟨[o], []⟩) (hx:∀x,R x→(∀f g,x.ren f g=x)∧K x T):VCx P G ro f ys0 T K:=by
 have hs:T.objs.set i o=T.objs:=by
  refine List.ext_getElem? fun j=> ?_
  by_cases hj:i=j
  ·subst hj
   rw [List.getElem?_set_self (List.getElem?_eq_some_iff.1 ho).1,ho]
  ·rw [List.getElem?_set_ne hj]
 refine VCx.at1 (o1:=o) (Q:=fun x o' l' =>R x∧o' =o∧l' = []) hG hro ho hl (hren _ _) rfl (VCx.argsLe hy (hv.mono ?_)) ?_
 ·rintro x T' ⟨h1,rfl⟩
  exact ⟨_,_,rfl,h1,rfl,rfl⟩
 ·rintro x o' l' ⟨h1,rfl,rfl⟩
  obtain ⟨h2,h3⟩:=hx x h1
  rw [h2,hren,hs,List.map_nil,List.append_nil]
  exact h3
end
end
section
open Go.RowKit

def yz (z:Int):TV:= .val (.int .u8 z)
def QL (cs:List TV) (off n:Nat):Bs:=cY 1 n ((cs.drop off).take n)
def RwOk (cs:List TV) (off n:Nat):Prop:=off+n≤cs.length∧cs.length≤1000000∧∃l:List Int,cs=l.map yz∧∀z∈l,0≤z∧z<256
theorem yA:∀l:List Int,cY 1 l.length (l.map yz)=bV l
 | []=>rfl
 | z::l=>by
  have h:=yA l
  simp only [List.length_cons,List.map_cons,cY,List.take_succ_cons,List.take_zero,List.drop_succ_cons,List.drop_zero,h]
  rfl
theorem Tf {l:List Int} {off n:Nat} (h:off+n≤l.length):QL (l.map yz) off n=bV ((l.drop off).take n):=by
 have e:((l.map yz).drop off).take n=((l.drop off).take n).map yz:=by rw [←List.map_drop,←List.map_take]
 have hl:((l.drop off).take n).length=n:=by rw [List.length_take,List.length_drop];omega
 have h2:=yA ((l.drop off).take n)
 rw [hl] at h2
 unfold QL
 rw [e,h2]
section
variable {cs:List TV} {off n:Nat}
theorem HE (f g:Nat→Option Nat):∀l:List Int,ar f g (l.map yz)=l.map yz
 | []=>rfl
 | z::l=>by simp only [List.map_cons,ar,HE f g l];rfl
theorem RwOk.ren (h:RwOk cs off n) (f g:Nat→Option Nat):(VO.row cs).ren f g= .row cs:=by
 obtain ⟨_,_,l,rfl,_⟩:=h
 simp only [VO.ren,HE]
end
section
variable {P:Program} {G:aU}
end
end
section
open Go.RowKit

end
section
open Go.RowKit

end
section
open Go.RowKit

end
section
open Go.RowKit

section
variable {cs:List TV} {off n:Nat}
end
section
variable {b:Bs} {cs:List TV}
end
end
section
open Go.RowKit

section
variable {P:Program} {G:aU}
end
section
variable {b:Bs} {cs:List TV} {pas:Int}
end
end
section
open Go.RowKit

section
variable {P:Program} {G:aU}
theorem vY {ro:Nat} {T:VT} {t e tn:TypeId} {s x:Operand} {l:List (Nat × TV)} {inf:TypeInfo} {z:Value} {kn kq:IntKind} {m:Int} (ht:P.underlying t=some (.slice e)) (htn:P.underlying tn=some (.int kn)) (hi:P.info? e=some inf) (hz:inf.zero=some z) (hzs:z.cells.size=inf.size) (h0s:0<inf.size)
  (hz1:z.cells.toList.all Value.oneCell' =true) (hs:aS G l s= .val (.slice none 0 0)) (hx:aS G l x= .val (.int kq m)) (h0:0<m) (hb:m.toNat*(inf.bytes+1)≤140737488355328):
  ba P G ro T (.call ⟨.builtin .append, #[s,x], #[t,tn]⟩) l (.row inf.size T.objs.length 0 m.toNat) (T.newRow ((Builtin.zeroCells z.cells m.toNat).toList.map .val)):=by
 refine .mk ?_
 have h1:bm P (.call ⟨.builtin .append, #[s,x], #[t,tn]⟩) (aS G l)=none:=by simp [bm,dI]
 have h2:bh P T (.call ⟨.builtin .append, #[s,x], #[t,tn]⟩) (aS G l)=none:=by simp [bh,dj,j6]
 have hsl:fT (P.underlying tn)=false:=by rw [htn];rfl
 have h3:uT P T t tn (.val (.slice none 0 0)) (.val (.int kq m))=some (.row inf.size T.objs.length 0 m.toNat,T.newRow ((Builtin.zeroCells z.cells m.toNat).toList.map .val)):=by
  unfold uT
  simp only [ht,htn,hi,hz,hzs,decide_eq_true h0,decide_eq_true h0s,decide_true,hz1,Nat.ble_eq_true_of_le hb,Bool.and_self,cond_true]
 simp only [fX,h1,h2,j8,hs,hx,hsl,h3,cond_false]
theorem kA {ro:Nat} {T:VT} {t e tx:TypeId} {s x:Operand} {l:List (Nat × TV)} {inf:TypeInfo} {z:Value} {q0:List TV} {qs:List (List TV)} {id n:Nat} {cs:List TV} (ht:P.underlying t=some (.slice e)) (hi:P.info? e=some inf) (hz:inf.zero=some z) (hzs:z.cells.size=inf.size) (hz1:z.cells.toList.all Value.oneCell' =true)
  (hsl:fT (P.underlying tx)=true) (hs:aS G l s= .row inf.size id 0 n) (ho:T.objs[id]?=some (.row cs)) (hro:ro≤id) (hn:n*inf.size≤cs.length) (hr:bQ T inf.size (aS G l x)=some (q0::qs)) (hb:(n+(q0::qs).length)*(inf.bytes+1)≤140737488355328):
  ba P G ro T (.call ⟨.builtin .append, #[s,x], #[t,tx]⟩) l (.row inf.size T.objs.length 0 (n+(q0::qs).length)) ((T.kill id).newRow (cs.take (n*inf.size)++(q0::qs).flatten)):=by
 refine .mk ?_
 have h1:bm P (.call ⟨.builtin .append, #[s,x], #[t,tx]⟩) (aS G l)=none:=by simp [bm,dI]
 have h2:bh P T (.call ⟨.builtin .append, #[s,x], #[t,tx]⟩) (aS G l)=none:=by simp [bh,dj,j6]
 have h4:mf P T t tx (.row inf.size id 0 n) (aS G l x)=none:=by simp [mf,ht]
 have h5:sC P ro T t tx (.row inf.size id 0 n) (aS G l x)=none:=rfl
 have h3:me P ro T t tx (.row inf.size id 0 n) (aS G l x)=some (.row inf.size T.objs.length 0 (n+(q0::qs).length),(T.kill id).newRow (cs.take (n*inf.size)++(q0::qs).flatten)):=by
  unfold me
  simp only [ht,hi,hz,hr,hzs,decide_true,hz1,hsl,Bool.and_self,cond_true,Nat.beq_refl,ho,Nat.ble_eq_true_of_le hro,Nat.ble_eq_true_of_le hn,Nat.ble_eq_true_of_le hb]
 simp only [fX,h1,h2,j8,hs,hsl,h4,h5,h3,cond_true]
end
end
section
open Go.RowKit

end
section
open Go.RowKit

section
variable {P:Program} {G:aU}
def Gh.pickG (g:Gh) (is ks:List Nat):Gh:={g with obj:=fun j=>(is[j]?).bind g.obj,tail:=fun j=>(ks[j]?).bind g.tail}
theorem yB (g:Gh) (is ks:List Nat):qA g (g.pickG is ks) (bb is) (bb ks) where
 obj i i' b h1 h2:=by simp [Gh.pickG,ji h1,h2]
 tail k k' x h1 h2:=by simp [Gh.pickG,ji h1,h2]
 st _ _ h:=h
theorem RW.pickG {g:Gh} {T:VT} {w:World} (r:RW g T w) {is ks:List Nat} (hi:is.Nodup) (hk:ks.Nodup) (hkl:∀k∈ks,k<T.tails.length):
  RW (g.pickG is ks) (T.give is ks) w:=by
 have k:=yB g is ks
 have hobj:∀(j:Nat) o,(T.give is ks).objs[j]?=some o→o.live=true→∃i o0,is[j]?=some i∧T.objs[i]?=some o0∧o0.live=true∧o=o0.ren (bb is) (bb ks):=by
  intro j o h hl
  simp only [VT.give,List.getElem?_map,Option.map_eq_some_iff] at h
  obtain ⟨i,h1,rfl⟩:=h
  rw [VO.ren_live] at hl
  cases h2:T.objs[i]? with
  | none=>rw [h2] at hl;cases hl
  | some o0=>rw [h2] at hl;exact ⟨i,o0,h1,h2,hl,by simp⟩
 have hsub:∀(j:Nat) x,(g.pickG is ks).tail j=some x→∃k0,ks[j]?=some k0∧g.tail k0=some x:=fun j x h=>by simpa [Gh.pickG,Option.bind_eq_some_iff] using h
 refine ⟨?_, ?_, ?_,r.st,r.fr, ?_, ?_, ?_, ?_, ?_, ?_, ?_⟩
 ·intro j o h hl
  obtain ⟨i,o0,h1,h2,h3,rfl⟩:=hobj j o h hl
  obtain ⟨b,h4,h5,h6,h7⟩:=r.obj i o0 h2 h3
  exact ⟨b,by simp [Gh.pickG,h1,h4],h5.ren k,h6,h7⟩
 ·intro i j oi oj b h1 l1 h2 l2 b1 b2
  obtain ⟨i0,o1,a1,a2,a3,rfl⟩:=hobj i oi h1 l1
  obtain ⟨j0,o2,c1,c2,c3,rfl⟩:=hobj j oj h2 l2
  simp only [Gh.pickG,a1,c1,Option.bind_some] at b1 b2
  have:=r.inj i0 j0 o1 o2 b a2 a3 c2 c3 b1 b2
  subst this
  exact kH hi a1 c1
 ·intro id hid
  simp only [VT.give,List.length_map] at hid
  simp [Gh.pickG,List.getElem?_eq_none hid]
 ·intro j p h
  simp only [VT.give,List.getElem?_map,Option.map_eq_some_iff] at h
  obtain ⟨k0,h1,rfl⟩:=h
  have hlt:=hkl k0 (List.mem_of_getElem? h1)
  obtain ⟨x,h2,h3,h4,h5⟩:=r.tl k0 _ (List.getElem?_eq_getElem hlt)
  refine ⟨x,by simp [Gh.pickG,h1,h2], ?_, ?_,h5⟩
  ·rw [List.getElem?_eq_getElem hlt];exact h3
  ·rw [List.getElem?_eq_getElem hlt];exact h4
 ·intro j hj
  simp only [VT.give,List.length_map] at hj
  simp [Gh.pickG,List.getElem?_eq_none hj]
 ·intro i j x y b h1 h2 i1 i2
  obtain ⟨i0,a1,a2⟩:=hsub i x h1
  obtain ⟨j0,c1,c2⟩:=hsub j y h2
  have:=r.tinj i0 j0 x y b a2 c2 i1 i2
  subst this
  exact kH hk a1 c1
 ·intro i oi b j x h1 l1 b1 hx hin
  obtain ⟨i0,o1,a1,a2,a3,rfl⟩:=hobj i oi h1 l1
  obtain ⟨j0,c1,c2⟩:=hsub j x hx
  simp only [Gh.pickG,a1,Option.bind_some] at b1
  exact r.tobj i0 o1 b j0 x a2 a3 b1 c2 hin
 ·intro j x hx
  obtain ⟨j0,c1,c2⟩:=hsub j x hx
  exact r.own j0 x c2
 ·intro j x hx
  obtain ⟨j0,c1,c2⟩:=hsub j x hx
  exact r.own0 j0 x c2
 ·intro j x hx
  obtain ⟨j0,c1,c2⟩:=hsub j x hx
  exact r.tlo j0 x c2
theorem Evo.pickG {g0 g:Gh} {T0:VT} {w0 w:World} (r0:RW g0 T0 w0) (e:Evo g0 w0 g w) {is ks:List Nat} (hp:∀j,j<T0.objs.length→is[j]?=some j) (hq:∀j,j<T0.tails.length→ks[j]?=some j) (hk:ks.Nodup):Evo g0 w0 (g.pickG is ks) w:=by
 refine ⟨e.os,e.tape,e.output,e.size,fun id b hb=> ?_,e.st,e.fr,e.frb,e.frs,fun k x hx=> ?_,fun k x h1 h2=> ?_,e.csz⟩
 ·simp only [Gh.pickG,hp id (zA r0 hb),Option.bind_some];exact e.obj id b hb
 ·simp only [Gh.pickG,hq k (oM r0 hx),Option.bind_some];exact e.tail k x hx
 ·simp only [Gh.pickG,Option.bind_eq_some_iff] at h2
  obtain ⟨k0,h3,h4⟩:=h2
  refine e.tnew k0 x ?_ h4
  by_cases hlt:k0<T0.tails.length
  ·have:=kH hk h3 (hq k0 hlt)
   subst this;exact h1
  ·exact r0.tout k0 (by omega)
end

section
variable {g:Gh} {w:World}
end

section
variable {P:Program} {G:aU}
end
end
section
open Go.RowKit

section
variable {P:Program} {G:aU}
theorem VCx.pick {f:FuncId} {xs:List TV} {T:VT} {Q:TV→VT→Prop} (h:VCx P G 0 f xs T fun x T' =>∃is ks:List Nat,(is.Nodup∧ks.Nodup∧(∀i∈is,i<T'.objs.length)∧(∀k∈ks,k<T'.tails.length)∧(∀j,j<T.objs.length→is[j]?=some j)∧(∀j,j<T.tails.length→ks[j]?=some j))∧Q (x.ren (bb is) (bb ks)) (T'.give is ks)):VCx P G 0 f xs T Q:=by
  intro g w us rw0 hG hx
  refine Calls.mono (h g w us rw0 hG hx) ?_
  rintro e w' ⟨v,x,g',T',he,⟨is,ks,⟨b1,b2,b3,b4,hp,hq0⟩,hq⟩,e',r',hv,hfx⟩
  refine ⟨v,_,g'.pickG is ks,T'.give is ks,he,hq,Evo.pickG rw0 e' hp hq0 b2,r'.pickG b1 b2 b4,hv.ren (yB g' is ks), ?_,fun i hi=>absurd hi (Nat.not_lt_zero i),fun i o b hi=>absurd hi (Nat.not_lt_zero i)⟩
  simp only [VT.give,List.length_map]
  rcases Nat.eq_zero_or_pos T.objs.length with h0 | h0
  · omega
  · have:=(List.getElem?_eq_some_iff.1 (hp (T.objs.length-1) (by omega))).1
    omega
end
end
section
open Go.RowKit

abbrev pm:=38
abbrev tD:=63
def rR (n:Int) (y:TV) (T2:VT) (ro:Nat) (T:VT):Prop:=VCx Tryz.prog ae ro tD [.val (.slice none 0 0), .val (.int .i64 n)] T fun x T1=>x=y∧T1=T2
def yC (gy:TV) (gT:VT):aV:=fun ro ys T K=>match ys with
 | [.val (.slice none 0 0), .val (.int .i64 n)]=>rR n gy gT ro T∧K gy gT
 | _=>aN 84 default ys
def QM (y1 y2:TV) (T1 T2:VT):List TV→Option (TV × Option VT)
 | [.row _ 0 _ _, .vec _ (_::_) _]=>some (y1,some T1)
 | [.row _ (_+1) _ _, .vec _ (_::_) _]=>some (y2,some T2)
 | _=>none
def sV (y1 y2:TV) (T1 T2:VT):iW:=fun o σ _=>match o.dst with
 | some d=>bif Nat.beq d 33 then QM y1 y2 T1 T2 σ else none
 | none=>none
theorem Tg (n:Int) (k:Nat) (W:List TV) (T:VT) (Q:TV→VT→Prop):au Tryz.prog ae br (bc [(22, .row 1 0 0 k,some fun T=>T.newRow W)]) 300 aK 0 tD [.val (.slice none 0 0), .val (.int .i64 n)] aG Q=
 (bif decide (n<(0:Int))
 then False
 else (bif decide (IntKind.wrap IntKind.i64 (n-IntKind.wrap IntKind.i64 ((↑(0:Nat):Int)-(↑(0:Nat):Int)))>(0:Int))
 then (ba Tryz.prog (fun _=> .none) 0 aG (.call ⟨(.builtin .append), #[(.tmp 20),(.tmp 21)], #[22,3]⟩) [(20,aO),(21,(ak (IntKind.wrap IntKind.i64 (n-IntKind.wrap IntKind.i64 ((↑(0:Nat):Int)-(↑(0:Nat):Int))))))] (.row 1 0 0 k) ⟨[(.row W)], []⟩∧
 Q oz ⟨[(.row W)], []⟩)
 else Q aO aG)):=by kernel_rfl
theorem ND (q r:List TV) (a b:Bs) (k:Nat) (W:List TV) (tok tok1 tok2:Tok) (y2:TV) (T0 T1 T2:VT) (Q:TV→VT→Prop):au Tryz.prog ae (aC [(tD,yC oz T0)]) (sV (pP k) y2 T1 T2) 300 aK 0 pm [.vec 1 [[.vec 1 (q::a) tok1], [.vec 1 (r::b) tok2]] tok] aG Q=
 (bif decide (IntKind.wrap IntKind.i64 ((0:Int)+(↑(List.length (q::a)):Int))<(0:Int))
 then False
 else (bif decide (IntKind.wrap IntKind.i64 (IntKind.wrap IntKind.i64 ((0:Int)+(↑(List.length (q::a)):Int))+(↑(List.length (r::b)):Int))<(0:Int))
 then False
 else (rR (IntKind.wrap IntKind.i64 (IntKind.wrap IntKind.i64 ((0:Int)+(↑(List.length (q::a)):Int))+(↑(List.length (r::b)):Int))) oz (T0) 0 aG∧
 (ba Tryz.prog (fun _=> .none) 0 (T0) (.call ⟨(.builtin .append), #[(.tmp 31),(.tmp 32)], #[22,22]⟩) [(31,oz),(32,(.vec 1 ([(q)]++a) tok1))] (pP k) (T1)∧
 (ba Tryz.prog (fun _=> .none) 0 (T1) (.call ⟨(.builtin .append), #[(.tmp 31),(.tmp 32)], #[22,22]⟩) [(31,(pP k)),(32,(.vec 1 ([(r)]++b) tok2))] (y2) (T2)∧
 Q (y2) (T2)))))):=by kernel_rfl
theorem QN (q:List TV) (a:Bs) (k:Nat) (W:List TV) (tok tok1 tok2:Tok) (T1:VT) (Q:TV→VT→Prop):au Tryz.prog ae (aC [(tD,yC oz (dv (.row W)))]) (sV (pP k) .dead T1 T1) 300 aK 0 pm [.vec 1 [[.vec 1 (q::a) tok1], [.vec 1 [] tok2]] tok] aG Q=
 (bif decide (IntKind.wrap IntKind.i64 ((0:Int)+(↑(List.length (q::a)):Int))<(0:Int))
 then False
 else (bif decide (IntKind.wrap IntKind.i64 (IntKind.wrap IntKind.i64 ((0:Int)+(↑(List.length (q::a)):Int))+(↑(0:Nat):Int))<(0:Int))
 then False
 else (rR (IntKind.wrap IntKind.i64 (IntKind.wrap IntKind.i64 ((0:Int)+(↑(List.length (q::a)):Int))+(↑(0:Nat):Int))) oz ⟨[(.row W)], []⟩ 0 aG∧
 (ba Tryz.prog (fun _=> .none) 0 ⟨[(.row W)], []⟩ (.call ⟨(.builtin .append), #[(.tmp 31),(.tmp 32)], #[22,22]⟩) [(31,oz),(32,(.vec 1 ([(q)]++a) tok1))] (pP k) (T1)∧
 Q (pP k) (T1))))):=by kernel_rfl
theorem QO (q:List TV) (a:Bs) (k:Nat) (W:List TV) (tok tok1 tok2:Tok) (T1:VT) (Q:TV→VT→Prop):au Tryz.prog ae (aC [(tD,yC oz (dv (.row W)))]) (sV (pP k) .dead T1 T1) 300 aK 0 pm [.vec 1 [[.vec 1 [] tok1], [.vec 1 (q::a) tok2]] tok] aG Q=
 (bif decide (IntKind.wrap IntKind.i64 (IntKind.wrap IntKind.i64 ((0:Int)+(↑(0:Nat):Int))+(↑(List.length (q::a)):Int))<(0:Int))
 then False
 else (rR (IntKind.wrap IntKind.i64 (IntKind.wrap IntKind.i64 ((0:Int)+(↑(0:Nat):Int))+(↑(List.length (q::a)):Int))) oz ⟨[(.row W)], []⟩ 0 aG∧
 (ba Tryz.prog (fun _=> .none) 0 ⟨[(.row W)], []⟩ (.call ⟨(.builtin .append), #[(.tmp 31),(.tmp 32)], #[22,22]⟩) [(31,oz),(32,(.vec 1 ([(q)]++a) tok2))] (pP k) (T1)∧
 Q (pP k) (T1)))):=by kernel_rfl
end
section
open Go.RowKit

def zR (n:Nat):List TV:=(Builtin.zeroCells (Value.int .u8 0).cells n).toList.map .val
theorem QP (n:Nat):(zR n).length=n:=by
 unfold zR
 rw [List.length_map,Array.length_toList,size_zeroCells]
 exact Nat.mul_one n
theorem QR (f g:Nat→Option Nat) (n:Nat):ar f g (zR n)=zR n:=qz _ _ _
theorem QS {n:Int} (h0:0<n) (h1:n≤2000000):VCx Tryz.prog ae 0 tD [.val (.slice none 0 0), .val (.int .i64 n)] ⟨[], []⟩ fun x T1=>x= .row 1 0 0 0∧T1=⟨[.row (zR n.toNat)], []⟩:=by
 obtain ⟨inf,i1,i2,i3,i4⟩:=dn
 refine ai ac aa an ah (Tg n n.toNat (zR n.toNat) ⟨[], []⟩ _) ?_
 have e:IntKind.wrap IntKind.i64 (n-IntKind.wrap IntKind.i64 (((0:Nat):Int)-((0:Nat):Int)))=n:=by
  rw [show IntKind.wrap IntKind.i64 (((0:Nat):Int)-((0:Nat):Int))=0 from rfl,Int.sub_zero,bP (by omega) (by omega)]
 refine aM (decide_eq_false (by omega)) (aQ (decide_eq_true (by rw [e];exact h0)) ⟨?_,rfl,rfl⟩)
 rw [e]
 have h:=vY (P:=Tryz.prog) (G:=ae) (ro:=0) (T:=⟨[], []⟩) (t:=22) (tn:=3) (s:= .tmp 20) (x:= .tmp 21) (l:= [(20, .val (.slice none 0 0)),(21, .val (.int .i64 n))]) (inf:=inf) (m:=n) Tryz.underlying22 Tryz.underlying3 i1 i4 (by rw [i2];rfl) (by rw [i2];decide) rfl rfl rfl h0 (by rw [i3];omega)
 rw [i2] at h
 exact h
theorem vZ {n:Int} (h0:0<n) (h1:n≤2000000) (ro:Nat) (T:VT):rR n (.row 1 T.objs.length 0 0) {T with objs:=T.objs++ [.row (zR n.toNat)]} ro T:=by
 unfold rR
 refine (VCx.lift (T:=T) [] [] aq List.nodup_nil List.nodup_nil (by simp) (by simp) (by simp) rfl (by rw [VT.give_nil];exact QS h0 h1) (fun _ _ _=>⟨Nat.zero_le _,Nat.zero_le _⟩)).mono ?_
 rintro z T' ⟨x,T'',⟨rfl,rfl⟩,rfl,rfl⟩
 refine ⟨by simp [TV.ren,bf], ?_⟩
 rw [VT.back_nil]
 simp [VO.ren,QR]
theorem QT {gy:TV} {gT:VT}:∀ro ys T K,yC gy gT ro ys T K→VCx Tryz.prog ae ro tD ys T K:=by
 intro ro ys T K hw
 unfold yC at hw
 split at hw
 ·obtain ⟨h,hk⟩:=hw
  exact VCx.mono h fun x T1 ⟨h1,h2⟩=>by subst h1 h2;exact hk
 ·exact hw.elim
theorem xm:∀l:List Int,(bV l).flatten=l.map yz
 | []=>rfl
 | z::l=>by
  have:=xm l
  simp only [bV,List.map_cons,List.flatten_cons] at this ⊢
  rw [this];rfl
theorem NE {w:Bs} (h:IsB w):RwOk w.flatten 0 w.length∧QL w.flatten 0 w.length=w:=by
 obtain ⟨⟨l,rfl,hz⟩,hl⟩:=h
 have hn:(bV l).length=l.length:=by simp [bV]
 rw [xm,hn]
 rw [hn] at hl
 refine ⟨⟨by simp,by simpa using hl,l,rfl,hz⟩, ?_⟩
 rw [Tf (by omega)]
 simp
theorem IsB.append {a b:Bs} (h:IsB a) (k:IsB b) (hl:(a++b).length≤1000000):IsB (a++b):=by
 obtain ⟨⟨l,rfl,hz⟩,_⟩:=h
 obtain ⟨⟨m,rfl,hy⟩,_⟩:=k
 refine ⟨⟨l++m,by simp [bV],fun z h=> ?_⟩,hl⟩
 rcases List.mem_append.1 h with h | h
 ·exact hz z h
 ·exact hy z h
theorem qc {w:Bs} (h:IsB w):w.flatten.length=w.length:=by
 obtain ⟨⟨l,rfl,_⟩,_⟩:=h
 rw [xm]
 simp [bV]
theorem Bv {gy:TV} {gT:VT}:aZ Tryz.prog ae (aC [(tD,yC gy gT)]):=aJ fun p hp=>by
 obtain rfl:=List.mem_singleton.1 hp;exact QT
theorem NF {a b:Bs} {tok tok1 tok2:Tok} (ha:IsB a) (hb:IsB b) (hs:a.length+b.length≤1000000) (h0:0<a.length+b.length):VCx Tryz.prog ae 0 pm [.vec 1 [[.vec 1 a tok1], [.vec 1 b tok2]] tok] ⟨[], []⟩ fun x T' =>x= .row 1 0 0 (a.length+b.length)∧T' =⟨[.row (a++b).flatten], []⟩:=by
  obtain ⟨inf,i1,i2,i3,i4⟩:=dn
  have hW:RwOk (a++b).flatten 0 (a++b).length:=(NE (IsB.append ha hb (by rw [List.length_append];exact hs))).1
  have hfa:=qc ha
  have wr:∀m:Nat,m≤1000000→IntKind.wrap IntKind.i64 ((0:Int)+(m:Int))=(m:Int):=fun m hm=>by rw [Int.zero_add,bP (by omega) (by omega)]
  have wr2:IntKind.wrap IntKind.i64 (IntKind.wrap IntKind.i64 ((0:Int)+(a.length:Int))+(b.length:Int))=((a.length+b.length:Nat):Int):=by rw [wr _ (by omega),bP (by omega) (by omega)];omega
  have fin:∀{i:Nat} {x:TV} {T:VT},x= .row 1 i 0 (a.length+b.length)→T.objs[i]?=some (.row (a++b).flatten)→∃is ks:List Nat,(is.Nodup∧ks.Nodup∧(∀j∈is,j<T.objs.length)∧(∀k∈ks,k<T.tails.length)∧(∀j,j<(⟨[], []⟩:VT).objs.length→is[j]?=some j)∧(∀j,j<(⟨[], []⟩:VT).tails.length→ks[j]?=some j))∧(x.ren (bb is) (bb ks)= .row 1 0 0 (a.length+b.length)∧T.give is ks=⟨[.row (a++b).flatten], []⟩):=by
    rintro i x T rfl ho
    refine ⟨[i], [],⟨by simp,by simp, ?_,by simp,by simp,by simp⟩, ?_, ?_⟩
    · intro j hj
      obtain rfl:=List.mem_singleton.1 hj
      exact (List.getElem?_eq_some_iff.1 ho).1
    · simp [TV.ren,bb]
    · simp only [VT.give,List.map_cons,List.map_nil,ho,Option.getD_some,hW.ren]
  refine VCx.pick ?_
  cases a with
  | nil=>
    cases b with
    | nil=>simp at h0
    | cons r b=>
      refine ai ac aa Bv ah (QO r b (b.length+1) (zR (b.length+1)) tok tok1 tok2 ⟨[.gone, .row (r::b).flatten], []⟩ _) ?_
      have w1:IntKind.wrap IntKind.i64 (IntKind.wrap IntKind.i64 ((0:Int)+((0:Nat):Int))+(((r::b).length:Nat):Int))=((b.length+1:Nat):Int):=by
        rw [show IntKind.wrap IntKind.i64 ((0:Int)+((0:Nat):Int))=0 from rfl];exact wr _ (by simp only [List.length_nil,List.length_cons] at hs ⊢;omega)
      refine aM ?_ ⟨?_, ?_,fin (i:=1) (by simp) rfl⟩
      · exact decide_eq_false (by have e:=w1;simp only [List.length_cons] at e ⊢;rw [e];omega)
      · have e:=w1
        simp only [List.length_cons] at e ⊢
        rw [e]
        exact vZ (n:=((b.length+1:Nat):Int)) (by omega) (by simp only [List.length_nil,List.length_cons] at hs;omega) 0 ⟨[], []⟩
      · have h:=kA (P:=Tryz.prog) (G:=ae) (ro:=0) (T:=⟨[.row (zR (b.length+1))], []⟩) (t:=22) (tx:=22) (s:= .tmp 31) (x:= .tmp 32) (l:= [(31, .row 1 0 0 0),(32, .vec 1 (r::b) tok2)]) (inf:=inf) (id:=0) (n:=0) (cs:=zR (b.length+1)) (q0:=r) (qs:=b) Tryz.underlying22 i1 i4 (by rw [i2];rfl) rfl rfl (by rw [i2];rfl) rfl (Nat.zero_le _) (by omega) (by rw [i2];rfl) (by rw [i3];simp only [List.length_nil,List.length_cons] at hs ⊢;omega)
        rw [i2,Nat.zero_mul,Nat.zero_add] at h
        exact h
  | cons q a=>
    cases b with
    | nil=>
      refine ai ac aa Bv ah (QN q a (a.length+1) (zR (a.length+1)) tok tok1 tok2 ⟨[.gone, .row (q::a).flatten], []⟩ _) ?_
      have w1:IntKind.wrap IntKind.i64 ((0:Int)+(((q::a).length:Nat):Int))=((a.length+1:Nat):Int):=wr _ (by simp only [List.length_nil,List.length_cons] at hs ⊢;omega)
      have w2:IntKind.wrap IntKind.i64 (IntKind.wrap IntKind.i64 ((0:Int)+(((q::a).length:Nat):Int))+((0:Nat):Int))=((a.length+1:Nat):Int):=by
        rw [w1];exact bP (by omega) (by simp only [List.length_nil,List.length_cons] at hs;omega)
      simp only [List.length_cons] at w1 w2
      refine aM ?_ (aM ?_ ⟨?_, ?_,fin (i:=1) (by simp) (by simp)⟩)
      · exact decide_eq_false (by simp only [List.length_cons];rw [w1];omega)
      · exact decide_eq_false (by simp only [List.length_cons];rw [w2];omega)
      · simp only [List.length_cons];rw [w2]
        exact vZ (n:=((a.length+1:Nat):Int)) (by omega) (by simp only [List.length_nil,List.length_cons] at hs;omega) 0 ⟨[], []⟩
      · have h:=kA (P:=Tryz.prog) (G:=ae) (ro:=0) (T:=⟨[.row (zR (a.length+1))], []⟩) (t:=22) (tx:=22) (s:= .tmp 31) (x:= .tmp 32) (l:= [(31, .row 1 0 0 0),(32, .vec 1 (q::a) tok1)]) (inf:=inf) (id:=0) (n:=0) (cs:=zR (a.length+1)) (q0:=q) (qs:=a) Tryz.underlying22 i1 i4 (by rw [i2];rfl) rfl rfl (by rw [i2];rfl) rfl (Nat.zero_le _) (by omega) (by rw [i2];rfl) (by rw [i3];simp only [List.length_nil,List.length_cons] at hs ⊢;omega)
        rw [i2,Nat.zero_mul,Nat.zero_add] at h
        exact h
    | cons r b=>
      refine ai ac aa Bv ah (ND q r a b (a.length+1) (zR ((q::a).length+(r::b).length)) tok tok1 tok2 (.row 1 2 0 ((q::a).length+(r::b).length)) ⟨[.row (zR ((q::a).length+(r::b).length))], []⟩ ⟨[.gone, .row (q::a).flatten], []⟩ ⟨[.gone, .gone, .row ((q::a).flatten++(r::b).flatten)], []⟩ _) ?_
      have w1:=wr (q::a).length (by omega)
      refine aM ?_ (aM ?_ ⟨?_, ?_, ?_,fin (i:=2) rfl (by simp)⟩)
      · rw [w1];exact decide_eq_false (by omega)
      · rw [wr2];exact decide_eq_false (by omega)
      · rw [wr2];exact vZ (n:=(((q::a).length+(r::b).length:Nat):Int)) (by omega) (by omega) 0 ⟨[], []⟩
      · have h:=kA (P:=Tryz.prog) (G:=ae) (ro:=0) (T:=⟨[.row (zR ((q::a).length+(r::b).length))], []⟩) (t:=22) (tx:=22) (s:= .tmp 31) (x:= .tmp 32) (l:= [(31, .row 1 0 0 0),(32, .vec 1 (q::a) tok1)]) (inf:=inf) (id:=0) (n:=0) (cs:=zR ((q::a).length+(r::b).length)) (q0:=q) (qs:=a) Tryz.underlying22 i1 i4 (by rw [i2];rfl) rfl rfl (by rw [i2];rfl) rfl (Nat.zero_le _) (by omega) (by rw [i2];rfl) (by rw [i3];omega)
        rw [i2,Nat.zero_mul,Nat.zero_add] at h
        exact h
      · have h:=kA (P:=Tryz.prog) (G:=ae) (ro:=0) (T:=⟨[.gone, .row (q::a).flatten], []⟩) (t:=22) (tx:=22) (s:= .tmp 31) (x:= .tmp 32) (l:= [(31, .row 1 1 0 (q::a).length),(32, .vec 1 (r::b) tok2)]) (inf:=inf) (id:=1) (n:=(q::a).length) (cs:=(q::a).flatten) (q0:=r) (qs:=b) Tryz.underlying22 i1 i4 (by rw [i2];rfl) rfl rfl (by rw [i2];rfl) rfl (Nat.zero_le _) (by rw [i2];omega) (by rw [i2];rfl) (by rw [i3];omega)
        rw [i2,Nat.mul_one,List.take_of_length_le (by omega)] at h
        exact h
end
section
open Go.RowKit

abbrev HF:=148
abbrev rS:=180
abbrev rU:=166
abbrev oG:=179
abbrev Bw:=165
abbrev Bx:=147
abbrev QU:=167
abbrev HG:=131
abbrev By:=151
abbrev HH:=132
abbrev Lm:=100
abbrev Ln:=60
def v6 (n:Int):Int:=if (32:Int)<if (0:Int)>n then (0:Int) else n then (32:Int) else if (0:Int)>n then (0:Int) else n
def Bz (a n:Int):Int:=hJ a (v6 n)
def ol (a n:Int):Bool:=decide (a=Bz a n)&&decide (n=v6 n)
def UT:List TV→Int × Int
 | [.val (.int _ a), .val (.int _ n)]=>(a,n)
 | _=>(0,0)
def tE (l:Bs):List (Int × Int):=l.map UT
def rV (l:Bs):Prop:=∃p:List (Int × Int),l=aW p∧p.length≤100000
def Fb (l:Bs):Prop:=∃p:List (Int × Int),l=aW p∧p.length≤2000000
def lZ (l:Bs):Bool:= !(tE l).all fun p=>ol p.1 p.2
def yD:AtV:=⟨0, [],0,0,false⟩
def QV:List TV:= [.val (.int .i64 0), .val (.slice none 0 0), .val (.int .u32 0), .val (.int .i64 0), .val (.bool false)]
def QW (l m:List TV) (ok:Bool):Prop:=∃a:AtV,l=a.cells∧a.p.length≤2000000∧m=QV∧ok=decide (a=yD)
def QX (l m:List TV) (ok:Bool):Prop:=∃a b:AtV,(l=a.cells∧m=b.cells)∧(a.p.length≤2000000∧b.p.length≤2000000)∧ok=decide (a=b)
def QY (l:List TV) (v:Bs):Prop:=∃a:AtV,l=a.cells∧a.p.length≤2000000∧(0≤a.h∧a.h<4294967296)∧v=nD a
def BA (l:Bs):Prop:=∃p:List (Int × Int),l=aW p∧mn p
def jX (l:Bs):Bs:=bB (tE l)
def xp (b:Bs):Prop:=IsB b∧b.length≤500000
def BC (a b c:Bs):Prop:=(IsB a∧a≠ [])∧(IsB b∧b≠ [])∧IsB c∧a.length+b.length+c.length≤1000000
structure UpV where
 w:List (Int × Int)
 a:AtV
 n:List (Int × Int)
deriving DecidableEq
def UpV.cells (u:UpV):List TV:= [.vec 2 (aW u.w) .none, .val (.int .i64 u.a.o), .vec 1 (iV u.a.p) .none, .val (.int .u32 u.a.h), .val (.int .i64 u.a.m), .val (.bool u.a.hm), .vec 2 (aW u.n) .none]
def iZ (u:UpV):Bool:=(u.w++u.n).all (fun p=>ol p.1 p.2)&&bif decide ((u.n.length:Int)>0) then ig u.a else decide (u.a=yD)
def dG (u:UpV):Bs:=bif decide ((u.n.length:Int)>0) then nD u.a else []
def dV (u:UpV):Bs:=(ap 2 (bB u.w).length++bB u.w)++((ap 2 (dG u).length++dG u)++bB u.n)
def iD (u:UpV):Prop:=u.w.length≤50000∧u.n.length≤50000∧u.a.p.length≤2000000∧0≤u.a.h∧u.a.h<4294967296
def QZ (l:List TV) (ok:Bool):Prop:=∃u:UpV,l=u.cells∧iD u∧ok=iZ u
def Q0 (l:List TV) (v:Bs):Prop:=∃u:UpV,l=u.cells∧(iD u∧iZ u=true)∧v=dV u
def Kn (l m:Bs):Prop:=∃p q:List (Int × Int),(l=aW p∧m=aW q)∧p.length≤2000000
def BD (l m:Bs):Bool:=decide (tE l=tE m)
def mo (n:Int) (y:TV) (T2:VT) (ro:Nat) (T:VT):Prop:=VCx Tryz.prog ae ro rS [.val (.slice none 0 0), .val (.int .i64 n)] T fun x T1=>x=y∧T1=T2
def ur (gy:TV) (gT:VT):aV:=fun ro ys T K=>match ys with
 | [.val (.slice none 0 0), .val (.int .i64 n)]=>mo n gy gT ro T∧K gy gT
 | _=>aN 84 default ys
def Q3 (y1 y2 y3:TV) (T1 T2 T3:VT):List TV→Option (TV × Option VT)
 | [.row _ 0 _ _, .vec _ (_::_) _]=>some (y1,some T1)
 | [.row _ 1 _ _, .vec _ (_::_) _]=>some (y2,some T2)
 | [.row _ (_+2) _ _, .vec _ (_::_) _]=>some (y3,some T3)
 | _=>none
def Lo (y1 y2 y3:TV) (T1 T2 T3:VT):iW:=fun o σ _=>match o.dst with
 | some d=>bif Nat.beq d 33 then Q3 y1 y2 y3 T1 T2 T3 σ else none
 | none=>none
def qd:aV:=fun _ ys T K=>match ys with
 | [x, .val (.int .u64 n), .val (.int .i64 k)]=>match x with
  | .val (.slice none 0 0)=>co n k∧K (.vec 1 (ap k n) (.tail T.tails.length 0)) {T with tails:=T.tails++ [(0,1,false)]}
  | .vec 1 b _=>(co n k∧gH b)∧K (.vec 1 (b++ap k n) (.tail T.tails.length 0)) {T with tails:=T.tails++ [(0,1,false)]}
  | _=>aN 85 default ys
 | _=>aN 84 default ys
def nE (kd:IntKind) (k:Int):aV:=fun _ ys T K=>match ys with
 | [x, .val (.int q n)]=>(q=kd)∧match x with
  | .val (.slice none 0 0)=>co n k∧K (.vec 1 (ap k n) (.tail T.tails.length 0)) {T with tails:=T.tails++ [(0,1,false)]}
  | .vec 1 b _=>(co n k∧gH b)∧K (.vec 1 (b++ap k n) (.tail T.tails.length 0)) {T with tails:=T.tails++ [(0,1,false)]}
  | _=>aN 85 default ys
 | _=>aN 84 default ys
def ut:TV:= .fn (.func 148) [] []
def Ko:aV:=fun _ ys T K=>match ys with
 | [.agg [.val (.int .u32 a), .val (.int .i64 n)]]=>K (.agg [.val (.int .u32 (Bz a n)), .val (.int .i64 (v6 n))]) T
 | _=>aN 84 default ys
def Lp:aV:=fun _ ys T K=>match ys with
 | [.agg [.val (.int .u32 a), .val (.int .i64 n)]]=>K (.val (.bool (ol a n))) T
 | _=>aN 84 default ys
def Kp:aV:=fun ro ys T K=>match ys with
 | [.vec 2 l _, .fn (.func 167) [] [.ptr i 0]]=>(((@Eq Bool (Nat.ble ro i) true)∧(@Eq (Option VO) (T.objs[i]?) (some (.cells [ut]))))∧Fb l)∧bif lZ l then ∀z:Nat,K (.val (.int .i64 (Int.ofNat z))) T else K (.val (.int .i64 (-1))) T
 | _=>aN 84 default ys
def Fc:aV:=fun ro ys T K=>match ys with
 | [.vec 2 l _, .fn (.func 167) [] [.ptr i 0]]=>(((@Eq Bool (Nat.ble ro i) true)∧(@Eq (Option VO) (T.objs[i]?) (some (.cells [ut]))))∧Fb l)∧K (.val (.bool (lZ l))) T
 | _=>aN 84 default ys
def Fd:aV:=fun _ ys T K=>match ys with
 | [.vec 1 [[.vec 2 a _], [.vec 2 b _]] _]=>(rV a∧rV b)∧K (.vec 2 (a++b) .none) T
 | _=>aN 84 default ys
def Fe:aV:=fun _ ys T K=>match ys with
 | [.fn (.func 148) [] [], .vec 1 [[.vec 2 a _], [.vec 2 b _]] _]=>(rV a∧rV b)∧K (.val (.bool (!lZ (a++b)))) T
 | _=>aN 84 default ys
def Lq (ok:Bool):aV:=fun _ ys T K=>match ys with
 | [.agg l, .agg m]=>QW l m ok∧K (.val (.bool ok)) T
 | _=>aN 84 default ys
def Lr (ok:Bool):aV:=fun _ ys T K=>match ys with
 | [.agg l, .agg m]=>QX l m ok∧K (.val (.bool ok)) T
 | _=>aN 84 default ys
def Ls (v:Bs):aV:=fun _ ys T K=>match ys with
 | [.agg l]=>QY l v∧K (.vec 1 v .none) T
 | _=>aN 84 default ys
def Lt:aV:=fun _ ys T K=>match ys with
 | [.vec 2 l _]=>BA l∧K (.vec 1 (jX l) .none) T
 | _=>aN 84 default ys
def Lu:aV:=fun _ ys T K=>match ys with
 | [.val (.slice none 0 0)]=>K (.vec 1 (ap 2 0) .none) T
 | [.vec 1 b _]=>xp b∧K (.vec 1 (ap 2 b.length++b) .none) T
 | _=>aN 84 default ys
def Ff:aV:=fun _ ys T K=>match ys with
 | [.vec 1 [[.vec 1 a _], [.vec 1 b _], [.vec 1 c _]] _]=>BC a b c∧K (.vec 1 (a++(b++c)) .none) T
 | _=>aN 84 default ys
def Lv (ok:Bool):aV:=fun _ ys T K=>match ys with
 | [.agg l]=>QZ l ok∧K (.val (.bool ok)) T
 | _=>aN 84 default ys
def Lw (v:Bs):aV:=fun _ ys T K=>match ys with
 | [.agg l]=>Q0 l v∧K (.vec 1 v .none) T
 | _=>aN 84 default ys
def Lx:aV:=fun _ ys T K=>match ys with
 | [.vec 2 l _, .vec 2 m _]=>Kn l m∧K (.val (.bool (BD l m))) T
 | _=>aN 84 default ys
def Dr:List Nat:= [0,1,4,7,8]
def yE (l:Bs) (r j:Int):List TV:= [.vec 2 l .none, .fn (.func 167) [] [.ptr 0 0], .val (.int .i64 r), .val (.int .i64 l.length), .val (.int .i64 j)]
def rW:VT:=⟨[.cells [ut]], []⟩
def UU (l:Bs) (ok:Bool) (K:KX):Prop:=∀(z:Nat) (a n:Int),bif ok then K .normal (aR 19 Dr (yE l 0 l.length)) rW [] else K .ret (aR 19 Dr (yE l z z)) ⟨[.cells [ut], .cells [.val (.int .u32 a), .val (.int .i64 n)]], []⟩ []
def Ui (l:Bs) (ok:Bool) (c0:Code):Nat→Option (b6 × Code):=cJ [(0,eU 19 Dr [] (yE l 0 0) rW (UU l ok),c0)]
theorem Q4 (b:Bs) (tok:Tok) (n:Int) (Q:TV→VT→Prop):au Tryz.prog ae (aC [(dN,qd)]) aT 300 aK 0 lX [.vec 1 b tok, .val (.int .i64 n)] ⟨[], []⟩ Q=
 ((co (IntKind.wrap IntKind.u64 n) 1∧
 gH (b))∧
 Q (.vec 1 (b++ap (1:Int) (IntKind.wrap IntKind.u64 n)) (.tail 0 0)) ⟨[], [(0,(1,false))]⟩):=by kernel_rfl
theorem NG (n:Int) (Q:TV→VT→Prop):au Tryz.prog ae (aC [(dN,qd)]) aT 300 aK 0 lX [.val (.slice none 0 0), .val (.int .i64 n)] ⟨[], []⟩ Q=
 (co (IntKind.wrap IntKind.u64 n) 1∧
 Q (.vec 1 (ap (1:Int) (IntKind.wrap IntKind.u64 n)) (.tail 0 0)) ⟨[], [(0,(1,false))]⟩):=by kernel_rfl
theorem NH (b:Bs) (tok:Tok) (n:Int) (Q:TV→VT→Prop):au Tryz.prog ae (aC [(dN,qd)]) aT 300 aK 0 iC [.vec 1 b tok, .val (.int .i64 n)] ⟨[], []⟩ Q=
 ((co (IntKind.wrap IntKind.u64 n) 2∧
 gH (b))∧
 Q (.vec 1 (b++ap (2:Int) (IntKind.wrap IntKind.u64 n)) (.tail 0 0)) ⟨[], [(0,(1,false))]⟩):=by kernel_rfl
theorem Kq (n:Int) (Q:TV→VT→Prop):au Tryz.prog ae (aC [(dN,qd)]) aT 300 aK 0 iC [.val (.slice none 0 0), .val (.int .i64 n)] ⟨[], []⟩ Q=
 (co (IntKind.wrap IntKind.u64 n) 2∧
 Q (.vec 1 (ap (2:Int) (IntKind.wrap IntKind.u64 n)) (.tail 0 0)) ⟨[], [(0,(1,false))]⟩):=by kernel_rfl
theorem Th (a n:Int) (Q:TV→VT→Prop):au Tryz.prog ae (aC [(ko,Ko)]) (bc [(999998, .dead,none)]) 300 aK 0 HF [.agg [.val (.int .u32 a), .val (.int .i64 n)]] ⟨[], []⟩ Q=
 (((@Eq (Option TV) (.some (.agg [(.val (.int .u32 (a))),(.val (.int .i64 (n)))])) (.some (.agg [(.val (.int .u32 (a))),(.val (.int .i64 (n)))])))∧
 ((@Eq (Option TV) (.some (.agg [(.val (.int .u32 (a))),(.val (.int .i64 (n)))])) (.some (.agg [(.val (.int .u32 (a))),(.val (.int .i64 (n)))])))∧
 True))∧
 Q (.val (.bool (av BinOp.eql (aP ((fun vs=>Value.agg (List.toArray vs)) ((fun x=>Value.int IntKind.u32 a::x) ((fun x=>Value.int IntKind.i64 n::x) []))) ((fun vs=>Value.agg (List.toArray vs)) ((fun x=>Value.int IntKind.u32 (Bz a n)::x) ((fun x=>Value.int IntKind.i64 (v6 n)::x) []))))))) ⟨[(.cells [(.val (.int .u32 (a))),(.val (.int .i64 (n)))])], []⟩):=by kernel_rfl
theorem HI (n:Int) (k:Nat) (W:List TV) (T:VT) (Q:TV→VT→Prop):au Tryz.prog ae br (bc [(22, .row 2 0 0 k,some fun T=>T.newRow W)]) 300 aK 0 rS [.val (.slice none 0 0), .val (.int .i64 n)] ⟨[], []⟩ Q=
 (bif decide (n<(0:Int))
 then False
 else (bif decide (IntKind.wrap IntKind.i64 (n-IntKind.wrap IntKind.i64 ((↑(0:Nat):Int)-(↑(0:Nat):Int)))>(0:Int))
 then (ba Tryz.prog (fun _=> .none) 0 ⟨[], []⟩ (.call ⟨(.builtin .append), #[(.tmp 20),(.tmp 21)], #[58,3]⟩) [(20,(.val (.slice .none 0 0))),(21,(.val (.int .i64 (IntKind.wrap IntKind.i64 (n-IntKind.wrap IntKind.i64 ((↑(0:Nat):Int)-(↑(0:Nat):Int)))))))] (.row 2 0 0 (k)) ⟨[(.row (W))], []⟩∧
 Q (.row 2 0 0 0) ⟨[(.row (W))], []⟩)
 else Q (.val (.slice .none 0 0)) ⟨[], []⟩)):=by kernel_rfl
theorem NI (q r:List TV) (a b:Bs) (k:Nat) (W:List TV) (tok tok1 tok2:Tok) (y2:TV) (T0 T1 T2:VT) (Q:TV→VT→Prop):au Tryz.prog ae (aC [(rS,ur (.row 2 0 0 0) T0)]) (sV (.row 2 1 0 k) y2 T1 T2) 300 aK 0 rU [.vec 1 [[.vec 2 (q::a) tok1], [.vec 2 (r::b) tok2]] tok] ⟨[], []⟩ Q=
 (bif decide (IntKind.wrap IntKind.i64 ((0:Int)+(↑(List.length (q::a)):Int))<(0:Int))
 then False
 else (bif decide (IntKind.wrap IntKind.i64 (IntKind.wrap IntKind.i64 ((0:Int)+(↑(List.length (q::a)):Int))+(↑(List.length (r::b)):Int))<(0:Int))
 then False
 else (mo (IntKind.wrap IntKind.i64 (IntKind.wrap IntKind.i64 ((0:Int)+(↑(List.length (q::a)):Int))+(↑(List.length (r::b)):Int))) (.row 2 0 0 0) (T0) 0 ⟨[], []⟩∧
 (ba Tryz.prog (fun _=> .none) 0 (T0) (.call ⟨(.builtin .append), #[(.tmp 31),(.tmp 32)], #[58,58]⟩) [(31,(.row 2 0 0 0)),(32,(.vec 2 ([(q)]++a) (tok1)))] (.row 2 1 0 (k)) (T1)∧
 (ba Tryz.prog (fun _=> .none) 0 (T1) (.call ⟨(.builtin .append), #[(.tmp 31),(.tmp 32)], #[58,58]⟩) [(31,(.row 2 1 0 (k))),(32,(.vec 2 ([(r)]++b) (tok2)))] (y2) (T2)∧
 Q (y2) (T2)))))):=by kernel_rfl
theorem Q5 (q:List TV) (a:Bs) (k:Nat) (W:List TV) (tok tok1 tok2:Tok) (T1:VT) (Q:TV→VT→Prop):au Tryz.prog ae (aC [(rS,ur (.row 2 0 0 0) ⟨[.row W], []⟩)]) (sV (.row 2 1 0 k) .dead T1 T1) 300 aK 0 rU [.vec 1 [[.vec 2 (q::a) tok1], [.vec 2 [] tok2]] tok] ⟨[], []⟩ Q=
 (bif decide (IntKind.wrap IntKind.i64 ((0:Int)+(↑(List.length (q::a)):Int))<(0:Int))
 then False
 else (bif decide (IntKind.wrap IntKind.i64 (IntKind.wrap IntKind.i64 ((0:Int)+(↑(List.length (q::a)):Int))+(↑(0:Nat):Int))<(0:Int))
 then False
 else (mo (IntKind.wrap IntKind.i64 (IntKind.wrap IntKind.i64 ((0:Int)+(↑(List.length (q::a)):Int))+(↑(0:Nat):Int))) (.row 2 0 0 0) ⟨[(.row (W))], []⟩ 0 ⟨[], []⟩∧
 (ba Tryz.prog (fun _=> .none) 0 ⟨[(.row (W))], []⟩ (.call ⟨(.builtin .append), #[(.tmp 31),(.tmp 32)], #[58,58]⟩) [(31,(.row 2 0 0 0)),(32,(.vec 2 ([(q)]++a) (tok1)))] (.row 2 1 0 (k)) (T1)∧
 Q (.row 2 1 0 (k)) (T1))))):=by kernel_rfl
theorem Q6 (q:List TV) (a:Bs) (k:Nat) (W:List TV) (tok tok1 tok2:Tok) (T1:VT) (Q:TV→VT→Prop):au Tryz.prog ae (aC [(rS,ur (.row 2 0 0 0) ⟨[.row W], []⟩)]) (sV (.row 2 1 0 k) .dead T1 T1) 300 aK 0 rU [.vec 1 [[.vec 2 [] tok1], [.vec 2 (q::a) tok2]] tok] ⟨[], []⟩ Q=
 (bif decide (IntKind.wrap IntKind.i64 (IntKind.wrap IntKind.i64 ((0:Int)+(↑(0:Nat):Int))+(↑(List.length (q::a)):Int))<(0:Int))
 then False
 else (mo (IntKind.wrap IntKind.i64 (IntKind.wrap IntKind.i64 ((0:Int)+(↑(0:Nat):Int))+(↑(List.length (q::a)):Int))) (.row 2 0 0 0) ⟨[(.row (W))], []⟩ 0 ⟨[], []⟩∧
 (ba Tryz.prog (fun _=> .none) 0 ⟨[(.row (W))], []⟩ (.call ⟨(.builtin .append), #[(.tmp 31),(.tmp 32)], #[58,58]⟩) [(31,(.row 2 0 0 0)),(32,(.vec 2 ([(q)]++a) (tok2)))] (.row 2 1 0 (k)) (T1)∧
 Q (.row 2 1 0 (k)) (T1)))):=by kernel_rfl
theorem Q7 (tok tok1 tok2:Tok) (Q:TV→VT→Prop):au Tryz.prog ae (aC [(rS,ur (.val (.slice none 0 0)) ⟨[], []⟩)]) aT 300 aK 0 rU [.vec 1 [[.vec 2 [] tok1], [.vec 2 [] tok2]] tok] ⟨[], []⟩ Q=
 (mo 0 (.val (.slice .none 0 0)) ⟨[], []⟩ 0 ⟨[], []⟩∧
 Q (.val (.slice .none 0 0)) ⟨[], []⟩):=by kernel_rfl
theorem Ti (l:Bs) (ok:Bool) (Q:TV→VT→Prop):au Tryz.prog ae br aT 300 (Ui l ok (aH Tryz.prog oG 0)) 0 oG [.vec 2 l .none, .fn (.func 167) [] [.ptr 0 0]] rW Q=
 ((aH Tryz.prog oG (0:Nat)=aH Tryz.prog oG (0:Nat))∧
 (((@Eq (Option Nat) .none .none)∧
 ((@Eq (Nat) 0 0)∧
 ((@Eq (List Nat) [] [])∧
 (True  ∧
 ((@Eq (VT) ⟨[(.cells [(.fn (.func 148) [] [])])], []⟩ ⟨[(.cells [(.fn (.func 148) [] [])])], []⟩)∧
 ((@Eq (Bool) true true)∧
 (@Eq (List TV) [(.vec 2 (l) .none),(.fn (.func 167) [] [(.ptr 0 0)]),(.val (.int .i64 0)),(.val (.int .i64 ((↑(List.length l):Int)))),(.val (.int .i64 0))] [(.vec 2 (l) .none),(.fn (.func 167) [] [(.ptr 0 0)]),(.val (.int .i64 0)),(.val (.int .i64 ((↑(List.length l):Int)))),(.val (.int .i64 0))])))))))∧
 (∀z:Nat,(∀a:Int,(∀n:Int,(bif ok
 then Q (.val (.int .i64 (-1))) ⟨[(.cells [(.fn (.func 148) [] [])])], []⟩
 else Q (.val (.int .i64 ((↑z:Int)))) ⟨[(.cells [(.fn (.func 148) [] [])]),(.cells [(.val (.int .u32 (a))),(.val (.int .i64 (n)))])], []⟩)))))):=by kernel_rfl
theorem HJ (l:Bs) (a n:Int) (j:Nat) (Q:Exit→List TV→VT→List Nat→Nat→Prop):vx Tryz.prog ae (aC [(HF,Lp)]) (bc [(999999, .dead,none),(14, .elt [.val (.int .u32 a), .val (.int .i64 n)],none)]) 300 aK none 0 (cI Tryz.prog oG 0) (aR 19 Dr (yE l 0 j)) rW [] (dm Dr Q)=
 (bif decide ((↑j:Int)<(↑(List.length l):Int))
 then (bo Tryz.prog (fun _=> .none) (.indexAddr 58 (.tmp 12) (.tmp 13)) [(12,(.vec 2 (l) .none)),(13,(.val (.int .i64 ((↑j:Int)))))] (.elt [(.val (.int .u32 (a))),(.val (.int .i64 (n)))])∧
 (bif !ol a n
 then Q .ret [(.vec 2 (l) .none),(.fn (.func 167) [] [(.ptr 0 0)]),(.val (.int .i64 ((↑j:Int)))),(.val (.int .i64 ((↑(List.length l):Int)))),(.val (.int .i64 ((↑j:Int))))] ⟨[(.cells [(.fn (.func 148) [] [])]),(.cells [(.val (.int .u32 (a))),(.val (.int .i64 (n)))])], []⟩ [] 19
 else Q .normal [(.vec 2 (l) .none),(.fn (.func 167) [] [(.ptr 0 0)]),(.val (.int .i64 0)),(.val (.int .i64 ((↑(List.length l):Int)))),(.val (.int .i64 (IntKind.wrap IntKind.i64 ((↑j:Int)+(1:Int)))))] ⟨[(.cells [(.fn (.func 148) [] [])]),(.cells [(.val (.int .u32 (a))),(.val (.int .i64 (n)))])], []⟩ [] 19))
 else Q (.exit 0) [(.vec 2 (l) .none),(.fn (.func 167) [] [(.ptr 0 0)]),(.val (.int .i64 0)),(.val (.int .i64 ((↑(List.length l):Int)))),(.val (.int .i64 ((↑j:Int))))] ⟨[(.cells [(.fn (.func 148) [] [])])], []⟩ [] 19):=by kernel_rfl
theorem Q8 (l:Bs) (Q:TV→VT→Prop):au Tryz.prog ae (aC [(oG,Kp)]) aT 300 aK 0 Bw [.vec 2 l .none, .fn (.func 167) [] [.ptr 0 0]] rW Q=
 ((((@Eq (Bool) true true)∧
 (@Eq (Option VO) (.some (.cells [(.fn (.func 148) [] [])])) (.some (.cells [(.fn (.func 148) [] [])]))))∧
 Fb (l))∧
 (bif lZ l
 then (∀z:Nat,Q (.val (.bool true)) ⟨[(.cells [(.fn (.func 148) [] [])])], []⟩)
 else Q (.val (.bool false)) ⟨[(.cells [(.fn (.func 148) [] [])])], []⟩)):=by kernel_rfl
theorem Q9 (a b:Bs) (tok tok1 tok2:Tok) (Q:TV→VT→Prop):au Tryz.prog ae (aC [(rU,Fd),(Bw,Fc)]) aT 300 aK 0 Bx [ut, .vec 1 [[.vec 2 a tok1], [.vec 2 b tok2]] tok] ⟨[], []⟩ Q=
 ((rV (a)∧
 rV (b))∧
 ((((@Eq (Bool) true true)∧
 (@Eq (Option VO) (.some (.cells [(.fn (.func 148) [] [])])) (.some (.cells [(.fn (.func 148) [] [])]))))∧
 Fb (a++b))∧
 Q (.val (.bool (!lZ (a++b)))) ⟨[(.cells [(.fn (.func 148) [] [])])], []⟩)):=by kernel_rfl
theorem Tj (w p n:Bs) (o h m:Int) (hm ok ok2:Bool) (Q:TV→VT→Prop):au Tryz.prog ae (aC [(Bx,Fe),(Bo,Dm ok),(yx,Lq ok2)]) (bc [(999998, .dead,none)]) 300 aK 0 HG [.agg [.vec 2 w .none, .val (.int .i64 o), .vec 1 p .none, .val (.int .u32 h), .val (.int .i64 m), .val (.bool hm), .vec 2 n .none]] ⟨[], []⟩ Q=
 ((rV (w)∧
 rV (n))∧
 (bif !!lZ (w++n)
 then Q (.val (.bool false)) ⟨[(.cells [(.vec 2 (w) .none),(.val (.int .i64 (o))),(.vec 1 (p) .none),(.val (.int .u32 (h))),(.val (.int .i64 (m))),(.val (.bool (hm))),(.vec 2 (n) .none)])], []⟩
 else (bif decide ((↑(List.length n):Int)>(0:Int))
 then (Ki [(.val (.int .i64 (o))),(.vec 1 (p) .none),(.val (.int .u32 (h))),(.val (.int .i64 (m))),(.val (.bool (hm)))] (ok)∧
 Q (.val (.bool (ok))) ⟨[(.cells [(.vec 2 (w) .none),(.val (.int .i64 (o))),(.vec 1 (p) .none),(.val (.int .u32 (h))),(.val (.int .i64 (m))),(.val (.bool (hm))),(.vec 2 (n) .none)])], []⟩)
 else (QW [(.val (.int .i64 (o))),(.vec 1 (p) .none),(.val (.int .u32 (h))),(.val (.int .i64 (m))),(.val (.bool (hm)))] [(.val (.int .i64 0)),(.val (.slice .none 0 0)),(.val (.int .u32 0)),(.val (.int .i64 0)),(.val (.bool false))] (ok2)∧
 Q (.val (.bool (ok2))) ⟨[(.cells [(.vec 2 (w) .none),(.val (.int .i64 (o))),(.vec 1 (p) .none),(.val (.int .u32 (h))),(.val (.int .i64 (m))),(.val (.bool (hm))),(.vec 2 (n) .none)])], []⟩)))):=by kernel_rfl
theorem Tk (b:Bs) (v:Bs) (e:Nat) (Q:TV→VT→Prop):au Tryz.prog ae (aC [(iC,nE .i64 2)]) (bc [(7, .vec 1 v (.tail 0 e),some fun T=>{T with tails:= [(e,1,false)]})]) 300 aK 0 By [.vec 1 b .none] ⟨[], []⟩ Q=
 ((@Eq (IntKind) .i64 .i64)∧
 (co ((↑(List.length b):Int)) 2∧
 (ba Tryz.prog (fun _=> .none) 0 ⟨[], [(0,(1,false))]⟩ (.call ⟨(.builtin .append), #[(.tmp 5),(.tmp 6)], #[22,22]⟩) [(5,(.vec 1 (ap (2:Int) (↑(List.length b):Int)) (.tail 0 0))),(6,(.vec 1 (b) .none))] (.vec 1 (v) (.tail 0 (e))) ⟨[], [((e),(1,false))]⟩∧
 Q (.vec 1 (v) (.tail 0 (e))) ⟨[], [((e),(1,false))]⟩))):=by kernel_rfl
theorem Ra (v:Bs) (e:Nat) (Q:TV→VT→Prop):au Tryz.prog ae (aC [(iC,nE .i64 2)]) (bc [(7, .vec 1 v (.tail 0 e),some fun T=>{T with tails:= [(e,1,false)]})]) 300 aK 0 By [.val (.slice none 0 0)] ⟨[], []⟩ Q=
 ((@Eq (IntKind) .i64 .i64)∧
 (co 0 2∧
 (ba Tryz.prog (fun _=> .none) 0 ⟨[], [(0,(1,false))]⟩ (.call ⟨(.builtin .append), #[(.tmp 5),(.tmp 6)], #[22,22]⟩) [(5,(.vec 1 (ap (2:Int) (↑(0:Nat):Int)) (.tail 0 0))),(6,(.val (.slice .none 0 0)))] (.vec 1 (v) (.tail 0 (e))) ⟨[], [((e),(1,false))]⟩∧
 Q (.vec 1 (v) (.tail 0 (e))) ⟨[], [((e),(1,false))]⟩))):=by kernel_rfl
theorem Tm (w p n v:Bs) (o h m:Int) (hm:Bool) (Q:TV→VT→Prop):au Tryz.prog ae (aC [(Hs,Ls v),(nB,Lt),(By,Lu),(pm,Ff)]) (bc [(999998, .dead,none)]) 300 aK 0 HH [.agg [.vec 2 w .none, .val (.int .i64 o), .vec 1 p .none, .val (.int .u32 h), .val (.int .i64 m), .val (.bool hm), .vec 2 n .none]] ⟨[], []⟩ Q=
 (bif decide ((↑(List.length n):Int)>(0:Int))
 then (QY [(.val (.int .i64 (o))),(.vec 1 (p) .none),(.val (.int .u32 (h))),(.val (.int .i64 (m))),(.val (.bool (hm)))] (v)∧
 (BA (w)∧
 (((@Eq (Option TV) (.some (.vec 2 (n) .none)) (.some (.vec 2 (n) .none)))∧
 ((@Eq (Option TV) (.some (.vec 2 (w) .none)) (.some (.vec 2 (w) .none)))∧
 True))∧
 (xp (jX w)∧
 (((@Eq (Option TV) (.some (.vec 2 (n) .none)) (.some (.vec 2 (n) .none)))∧
 ((@Eq (Option TV) (.some (.vec 2 (w) .none)) (.some (.vec 2 (w) .none)))∧
 True))∧
 (xp (v)∧
 (((@Eq (Option TV) (.some (.vec 2 (n) .none)) (.some (.vec 2 (n) .none)))∧
 ((@Eq (Option TV) (.some (.vec 2 (w) .none)) (.some (.vec 2 (w) .none)))∧
 True))∧
 (BA (n)∧
 (BC (ap (2:Int) (↑(List.length (jX w)):Int)++jX w) (ap (2:Int) (↑(List.length v):Int)++v) (jX n)∧
 Q (.vec 1 (ap (2:Int) (↑(List.length (jX w)):Int)++jX w++(ap (2:Int) (↑(List.length v):Int)++v++jX n)) .none) ⟨[(.cells [(.vec 2 (w) .none),(.val (.int .i64 (o))),(.vec 1 (p) .none),(.val (.int .u32 (h))),(.val (.int .i64 (m))),(.val (.bool (hm))),(.vec 2 (n) .none)])], []⟩)))))))))
 else (BA (w)∧
 (((@Eq (Option TV) (.some (.vec 2 (n) .none)) (.some (.vec 2 (n) .none)))∧
 ((@Eq (Option TV) (.some (.vec 2 (w) .none)) (.some (.vec 2 (w) .none)))∧
 True))∧
 (xp (jX w)∧
 (((@Eq (Option TV) (.some (.vec 2 (n) .none)) (.some (.vec 2 (n) .none)))∧
 ((@Eq (Option TV) (.some (.vec 2 (w) .none)) (.some (.vec 2 (w) .none)))∧
 True))∧
 (((@Eq (Option TV) (.some (.vec 2 (n) .none)) (.some (.vec 2 (n) .none)))∧
 ((@Eq (Option TV) (.some (.vec 2 (w) .none)) (.some (.vec 2 (w) .none)))∧
 True))∧
 (BA (n)∧
 (BC (ap (2:Int) (↑(List.length (jX w)):Int)++jX w) (ap (2:Int) (0:Int)) (jX n)∧
 Q (.vec 1 (ap (2:Int) (↑(List.length (jX w)):Int)++jX w++(ap (2:Int) (0:Int)++jX n)) .none) ⟨[(.cells [(.vec 2 (w) .none),(.val (.int .i64 (o))),(.vec 1 (p) .none),(.val (.int .u32 (h))),(.val (.int .i64 (m))),(.val (.bool (hm))),(.vec 2 (n) .none)])], []⟩)))))))):=by kernel_rfl
theorem Tn (w p n v:Bs) (o h m:Int) (hm ok:Bool) (Q:TV→VT→Prop):au Tryz.prog ae (aC [(HG,Lv ok),(HH,Lw v)]) (bc [(999998, .dead,none)]) 300 aK 0 Lm [.agg [.vec 2 w .none, .val (.int .i64 o), .vec 1 p .none, .val (.int .u32 h), .val (.int .i64 m), .val (.bool hm), .vec 2 n .none]] ⟨[], []⟩ Q=
 (QZ [(.vec 2 (w) .none),(.val (.int .i64 (o))),(.vec 1 (p) .none),(.val (.int .u32 (h))),(.val (.int .i64 (m))),(.val (.bool (hm))),(.vec 2 (n) .none)] (ok)∧
 (bif !ok
 then Q (.val (.slice .none 0 0)) ⟨[(.cells [(.vec 2 (w) .none),(.val (.int .i64 (o))),(.vec 1 (p) .none),(.val (.int .u32 (h))),(.val (.int .i64 (m))),(.val (.bool (hm))),(.vec 2 (n) .none)])], []⟩
 else (Q0 [(.vec 2 (w) .none),(.val (.int .i64 (o))),(.vec 1 (p) .none),(.val (.int .u32 (h))),(.val (.int .i64 (m))),(.val (.bool (hm))),(.vec 2 (n) .none)] (v)∧
 (bif decide ((↑(List.length v):Int)≤(4077:Int))
 then Q (.vec 1 (v) .none) ⟨[(.cells [(.vec 2 (w) .none),(.val (.int .i64 (o))),(.vec 1 (p) .none),(.val (.int .u32 (h))),(.val (.int .i64 (m))),(.val (.bool (hm))),(.vec 2 (n) .none)])], []⟩
 else Q (.val (.slice .none 0 0)) ⟨[(.cells [(.vec 2 (w) .none),(.val (.int .i64 (o))),(.vec 1 (p) .none),(.val (.int .u32 (h))),(.val (.int .i64 (m))),(.val (.bool (hm))),(.vec 2 (n) .none)])], []⟩)))):=by kernel_rfl
theorem To (w p n w2 p2 n2:Bs) (o h m o2 h2 m2:Int) (hm hm2 ok:Bool) (Q:TV→VT→Prop):au Tryz.prog ae (aC [(rN,Lx),(yx,Lr ok)]) (bc [(999998, .dead,none)]) 300 aK 0 Ln [.agg [.vec 2 w .none, .val (.int .i64 o), .vec 1 p .none, .val (.int .u32 h), .val (.int .i64 m), .val (.bool hm), .vec 2 n .none], .agg [.vec 2 w2 .none, .val (.int .i64 o2), .vec 1 p2 .none, .val (.int .u32 h2), .val (.int .i64 m2), .val (.bool hm2), .vec 2 n2 .none]] ⟨[], []⟩ Q=
 (Kn (w) (w2)∧
 (bif BD w w2
 then (Kn (n) (n2)∧
 (bif BD n n2
 then (QX [(.val (.int .i64 (o))),(.vec 1 (p) .none),(.val (.int .u32 (h))),(.val (.int .i64 (m))),(.val (.bool (hm)))] [(.val (.int .i64 (o2))),(.vec 1 (p2) .none),(.val (.int .u32 (h2))),(.val (.int .i64 (m2))),(.val (.bool (hm2)))] (ok)∧
 Q (.val (.bool (ok))) ⟨[(.cells [(.vec 2 (w) .none),(.val (.int .i64 (o))),(.vec 1 (p) .none),(.val (.int .u32 (h))),(.val (.int .i64 (m))),(.val (.bool (hm))),(.vec 2 (n) .none)]),(.cells [(.vec 2 (w2) .none),(.val (.int .i64 (o2))),(.vec 1 (p2) .none),(.val (.int .u32 (h2))),(.val (.int .i64 (m2))),(.val (.bool (hm2))),(.vec 2 (n2) .none)])], []⟩)
 else Q (.val (.bool false)) ⟨[(.cells [(.vec 2 (w) .none),(.val (.int .i64 (o))),(.vec 1 (p) .none),(.val (.int .u32 (h))),(.val (.int .i64 (m))),(.val (.bool (hm))),(.vec 2 (n) .none)]),(.cells [(.vec 2 (w2) .none),(.val (.int .i64 (o2))),(.vec 1 (p2) .none),(.val (.int .u32 (h2))),(.val (.int .i64 (m2))),(.val (.bool (hm2))),(.vec 2 (n2) .none)])], []⟩))
 else Q (.val (.bool false)) ⟨[(.cells [(.vec 2 (w) .none),(.val (.int .i64 (o))),(.vec 1 (p) .none),(.val (.int .u32 (h))),(.val (.int .i64 (m))),(.val (.bool (hm))),(.vec 2 (n) .none)]),(.cells [(.vec 2 (w2) .none),(.val (.int .i64 (o2))),(.vec 1 (p2) .none),(.val (.int .u32 (h2))),(.val (.int .i64 (m2))),(.val (.bool (hm2))),(.vec 2 (n2) .none)])], []⟩)):=by kernel_rfl
theorem Tq (q r s:List TV) (a b c:Bs) (k k2:Nat) (tok tok1 tok2 tok3:Tok) (y3:TV) (T0 T1 T2 T3:VT) (Q:TV→VT→Prop):au Tryz.prog ae (aC [(tD,yC (.row 1 0 0 0) T0)]) (Lo (.row 1 1 0 k) (.row 1 2 0 k2) y3 T1 T2 T3) 300 aK 0 pm [.vec 1 [[.vec 1 (q::a) tok1], [.vec 1 (r::b) tok2], [.vec 1 (s::c) tok3]] tok] ⟨[], []⟩ Q=
 (bif decide (IntKind.wrap IntKind.i64 ((0:Int)+(↑(List.length (q::a)):Int))<(0:Int))
 then False
 else (bif decide (IntKind.wrap IntKind.i64 (IntKind.wrap IntKind.i64 ((0:Int)+(↑(List.length (q::a)):Int))+(↑(List.length (r::b)):Int))<(0:Int))
 then False
 else (bif decide (IntKind.wrap IntKind.i64 (IntKind.wrap IntKind.i64 (IntKind.wrap IntKind.i64 ((0:Int)+(↑(List.length (q::a)):Int))+(↑(List.length (r::b)):Int))+(↑(List.length (s::c)):Int))<(0:Int))
 then False
 else (rR (IntKind.wrap IntKind.i64 (IntKind.wrap IntKind.i64 (IntKind.wrap IntKind.i64 ((0:Int)+(↑(List.length (q::a)):Int))+(↑(List.length (r::b)):Int))+(↑(List.length (s::c)):Int))) (.row 1 0 0 0) (T0) 0 ⟨[], []⟩∧
 (ba Tryz.prog (fun _=> .none) 0 (T0) (.call ⟨(.builtin .append), #[(.tmp 31),(.tmp 32)], #[22,22]⟩) [(31,(.row 1 0 0 0)),(32,(.vec 1 ([(q)]++a) (tok1)))] (.row 1 1 0 (k)) (T1)∧
 (ba Tryz.prog (fun _=> .none) 0 (T1) (.call ⟨(.builtin .append), #[(.tmp 31),(.tmp 32)], #[22,22]⟩) [(31,(.row 1 1 0 (k))),(32,(.vec 1 ([(r)]++b) (tok2)))] (.row 1 2 0 (k2)) (T2)∧
 (ba Tryz.prog (fun _=> .none) 0 (T2) (.call ⟨(.builtin .append), #[(.tmp 31),(.tmp 32)], #[22,22]⟩) [(31,(.row 1 2 0 (k2))),(32,(.vec 1 ([(s)]++c) (tok3)))] (y3) (T3)∧
 Q (y3) (T3)))))))):=by kernel_rfl
theorem Rb (q r:List TV) (a b:Bs) (k k2:Nat) (tok tok1 tok2 tok3:Tok) (y3:TV) (T0 T1 T2 T3:VT) (Q:TV→VT→Prop):au Tryz.prog ae (aC [(tD,yC (.row 1 0 0 0) T0)]) (Lo (.row 1 1 0 k) (.row 1 2 0 k2) y3 T1 T2 T3) 300 aK 0 pm [.vec 1 [[.vec 1 (q::a) tok1], [.vec 1 (r::b) tok2], [.vec 1 [] tok3]] tok] ⟨[], []⟩ Q=
 (bif decide (IntKind.wrap IntKind.i64 ((0:Int)+(↑(List.length (q::a)):Int))<(0:Int))
 then False
 else (bif decide (IntKind.wrap IntKind.i64 (IntKind.wrap IntKind.i64 ((0:Int)+(↑(List.length (q::a)):Int))+(↑(List.length (r::b)):Int))<(0:Int))
 then False
 else (bif decide (IntKind.wrap IntKind.i64 (IntKind.wrap IntKind.i64 (IntKind.wrap IntKind.i64 ((0:Int)+(↑(List.length (q::a)):Int))+(↑(List.length (r::b)):Int))+(↑(0:Nat):Int))<(0:Int))
 then False
 else (rR (IntKind.wrap IntKind.i64 (IntKind.wrap IntKind.i64 (IntKind.wrap IntKind.i64 ((0:Int)+(↑(List.length (q::a)):Int))+(↑(List.length (r::b)):Int))+(↑(0:Nat):Int))) (.row 1 0 0 0) (T0) 0 ⟨[], []⟩∧
 (ba Tryz.prog (fun _=> .none) 0 (T0) (.call ⟨(.builtin .append), #[(.tmp 31),(.tmp 32)], #[22,22]⟩) [(31,(.row 1 0 0 0)),(32,(.vec 1 ([(q)]++a) (tok1)))] (.row 1 1 0 (k)) (T1)∧
 (ba Tryz.prog (fun _=> .none) 0 (T1) (.call ⟨(.builtin .append), #[(.tmp 31),(.tmp 32)], #[22,22]⟩) [(31,(.row 1 1 0 (k))),(32,(.vec 1 ([(r)]++b) (tok2)))] (.row 1 2 0 (k2)) (T2)∧
 Q (.row 1 2 0 (k2)) (T2))))))):=by kernel_rfl
end
section
open Go.RowKit

theorem Kr {b:Bs} (hb:IsB b) (hne:b≠ []) (tok:Tok) {n k:Nat} (hk:k≤8):VCx Tryz.prog ae 0 dN [.vec 1 b tok, .val (.int .u64 n), .val (.int .i64 k)] ⟨[], []⟩ fun x T' =>x= .vec 1 (b++rt k n) (.tail 0 0)∧T' =⟨[], [(0,1,false)]⟩:=by
  obtain ⟨⟨l,rfl,hl⟩,hlen⟩:=hb
  have hne2:l≠ []:=fun h=>hne (by rw [h];rfl)
  have hll:(bV l).length=l.length:=by simp [bV]
  rw [hll] at hlen
  have hvs:(gt l++ii (cU n k)).length=l.length+k:=by simp [gt,ii,cU]
  have h:=VCx.ofOwnT (P:=Tryz.prog) (G:=ae) (f:=dN) (xs:= [.vec 1 (bV l) tok, .val (.int .u64 n), .val (.int .i64 k)]) (ty:=5) (vs:=gt l++ii (cU n k)) (fun v hv=> ?_) (by rw [hvs];unfold maxLen;omega) (fun g w us hx=> ?_)
  · refine h.mono ?_
    rintro x T' ⟨rfl,rfl⟩
    refine ⟨?_,rfl⟩
    rw [List.map_append,←jU,ru,←jU];rfl
  · rcases List.mem_append.1 hv with hv | hv
    · obtain ⟨z,_,rfl⟩:=List.mem_map.1 hv;rfl
    · obtain ⟨z,_,rfl⟩:=List.mem_map.1 hv;rfl
  · match us,hx.1 with
    | [v,u1,u2],_=>
      have hv:=hx.2 0 _ v rfl rfl
      obtain rfl:=(hx.2 1 _ u1 rfl rfl).val_inv
      obtain rfl:=(hx.2 2 _ u2 rfl rfl).val_inv
      have:=At v l.length (gt l) (fun u hu=>by obtain ⟨z,_,rfl⟩:=List.mem_map.1 hu;rfl) n k hk (by omega) w (Gb hv hne2)
      rw [hvs];exact this
theorem HL {n k:Nat} (hk:k≤8):VCx Tryz.prog ae 0 dN [.val (.slice none 0 0), .val (.int .u64 n), .val (.int .i64 k)] ⟨[], []⟩ fun x T' =>x= .vec 1 (rt k n) (.tail 0 0)∧T' =⟨[], [(0,1,false)]⟩:=by
 have hvs:(ii (cU n k)).length=k:=by simp [ii,cU]
 have h:=VCx.ofOwnT (P:=Tryz.prog) (G:=ae) (f:=dN) (xs:= [.val (.slice none 0 0), .val (.int .u64 n), .val (.int .i64 k)]) (ty:=5) (vs:=ii (cU n k)) (fun v hv=>by obtain ⟨z,_,rfl⟩:=List.mem_map.1 hv;rfl) (by rw [hvs];unfold maxLen;omega) (fun g w us hx=> ?_)
 ·refine h.mono ?_
  rintro x T' ⟨rfl,rfl⟩
  refine ⟨?_,rfl⟩
  rw [ru,←jU];rfl
 ·match us,hx.1 with
  | [v,u1,u2],_=>
   obtain rfl:=(hx.2 0 _ v rfl rfl).val_inv
   obtain rfl:=(hx.2 1 _ u1 rfl rfl).val_inv
   obtain rfl:=(hx.2 2 _ u2 rfl rfl).val_inv
   have:=At (.slice none 0 0) 0 [] (by simp) n k hk (by omega) w (Rd.nil w 1)
   rw [hvs]
   simpa using this
theorem Ks:∀ro ys T K,qd ro ys T K→VCx Tryz.prog ae ro dN ys T K:=by
 intro ro ys T K hw
 unfold qd at hw
 split at hw
 ·rename_i x n k
  split at hw
  ·obtain ⟨⟨⟨h1,h1b⟩,h2,h3⟩,hk⟩:=hw
   obtain ⟨n,rfl⟩:=Int.eq_ofNat_of_zero_le h1
   obtain ⟨k,rfl⟩:=Int.eq_ofNat_of_zero_le h2
   have hb:IsB (rt k n):=AG (by omega)
   exact VCx.liftTail aq (HL (n:=n) (k:=k) (by omega)) (by simp only [ar,TV.ren]) (fun f g=>hb.ren f g) hk
  ·rename_i b tok
   obtain ⟨⟨⟨⟨h1,h1b⟩,h2,h3⟩,hb,hne⟩,hk⟩:=hw
   obtain ⟨n,rfl⟩:=Int.eq_ofNat_of_zero_le h1
   obtain ⟨k,rfl⟩:=Int.eq_ofNat_of_zero_le h2
   exact VCx.liftTail aq (Kr (n:=n) (k:=k) hb hne (tok.ren (bb []) (bb [])) (by omega)) (by simp only [ar,TV.ren,hb.ren]) (fun f g=>xh hb (cM (k:=((k:Nat):Int)) ((n:Nat):Int) h3) f g) hk
  ·exact hw.elim
 ·exact hw.elim
theorem v7:aZ Tryz.prog ae (aC [(dN,qd)]):=aJ fun p hp=>by obtain rfl:=List.mem_singleton.1 hp;exact Ks
theorem BE {f:FuncId} {k:Int} (h0:∀{n:Int},0≤n→n≤1000000000000000→VCx Tryz.prog ae 0 f [.val (.slice none 0 0), .val (.int .i64 n)] ⟨[], []⟩ fun x T' =>x= .vec 1 (ap k n) (.tail 0 0)∧T' =⟨[], [(0,1,false)]⟩)
  (h1:∀{n:Int} {b:Bs} (tok:Tok),0≤n→n≤1000000000000000→IsB b→b≠ []→VCx Tryz.prog ae 0 f [.vec 1 b tok, .val (.int .i64 n)] ⟨[], []⟩ fun x T' =>x= .vec 1 (b++ap k n) (.tail 0 0)∧T' =⟨[], [(0,1,false)]⟩):
  ∀ro ys T K,nE .i64 k ro ys T K→VCx Tryz.prog ae ro f ys T K:=by
 intro ro ys T K hw
 unfold nE at hw
 split at hw
 ·rename_i x q n
  obtain ⟨rfl,hw⟩:=hw
  split at hw
  ·obtain ⟨⟨⟨g1,hn⟩,g2,g3⟩,hk⟩:=hw
   exact VCx.liftTail aq (h0 g1 hn) (by simp only [ar,TV.ren]) (fun f g=>(cM n g3).ren f g) hk
  ·rename_i b tok
   obtain ⟨⟨⟨⟨g1,hn⟩,g2,g3⟩,hb,hne⟩,hk⟩:=hw
   exact VCx.liftTail aq (h1 (tok.ren (bb []) (bb [])) g1 hn hb hne) (by simp only [ar,TV.ren,hb.ren]) (fun f g=>xh hb (cM n g3) f g) hk
  ·exact hw.elim
 ·exact hw.elim
theorem BF:∀ro ys T K,nE .i64 1 ro ys T K→VCx Tryz.prog ae ro lX ys T K:=BE
 (fun g hn=>ai ac aa v7 ah (NG _ _) (by rw [jx g hn];exact ⟨⟨⟨g,hn⟩,by decide,by decide⟩,rfl,rfl⟩))
 (fun tok g hn hb hne=>ai ac aa v7 ah (Q4 _ tok _ _) (by rw [jx g hn];exact ⟨⟨⟨⟨g,hn⟩,by decide,by decide⟩,hb,hne⟩,rfl,rfl⟩))
theorem Ds:∀ro ys T K,nE .i64 2 ro ys T K→VCx Tryz.prog ae ro iC ys T K:=BE
 (fun g hn=>ai ac aa v7 ah (Kq _ _) (by rw [jx g hn];exact ⟨⟨⟨g,hn⟩,by decide,by decide⟩,rfl,rfl⟩))
 (fun tok g hn hb hne=>ai ac aa v7 ah (NH _ tok _ _) (by rw [jx g hn];exact ⟨⟨⟨⟨g,hn⟩,by decide,by decide⟩,hb,hne⟩,rfl,rfl⟩))
theorem Rc:∀ro ys T K,Ko ro ys T K→VCx Tryz.prog ae ro ko ys T K:=by
 intro ro ys T K hw
 unfold Ko at hw
 split at hw
 ·rename_i a n
  have hm:kD (v6 n):=by unfold v6 kD;split<;>split<;>omega
  exact VCx.liftPure aq (VCx.keepQ 0 0 (Nat.le_refl _) (Nat.le_refl _) (ai ac aa (aJ fun p hp=>by obtain rfl:=List.mem_singleton.1 hp;exact CN) ah (Gl a n _) ⟨hm,rfl,rfl⟩)) rfl (fun _ _=>rfl) hw
 ·exact hw.elim
theorem UI (a n c p:Int):av BinOp.eql (aP (.agg #[.int .u32 a, .int .i64 n]) (.agg #[.int .u32 c, .int .i64 p]))=(decide (a=c)&&decide (n=p)):=by
 simp [av,aP,ef,ci,Bool.beq_eq_decide_eq]
theorem Re (a n:Int):VCx Tryz.prog ae 0 HF [.agg [.val (.int .u32 a), .val (.int .i64 n)]] ⟨[], []⟩ fun x T' =>x= .val (.bool (ol a n))∧T' =⟨[], []⟩:=
 VCx.keepQ 0 0 (Nat.le_refl _) (Nat.le_refl _) (ai ac aa (aJ fun p hp=>by obtain rfl:=List.mem_singleton.1 hp;exact Rc) ah (Th a n _) ⟨⟨rfl,rfl,trivial⟩,by
  refine ⟨?_,by simp [VT.keep]⟩
  show TV.val (.bool _)=_
  rw [show av BinOp.eql (aP ((fun vs=>Value.agg (List.toArray vs)) ((fun x=>Value.int IntKind.u32 a::x) ((fun x=>Value.int IntKind.i64 n::x) []))) ((fun vs=>Value.agg (List.toArray vs)) ((fun x=>Value.int IntKind.u32 (Bz a n)::x) ((fun x=>Value.int IntKind.i64 (v6 n)::x) []))))=_ from UI a n (Bz a n) (v6 n)]
  rfl⟩)
theorem Rf:∀ro ys T K,Lp ro ys T K→VCx Tryz.prog ae ro HF ys T K:=by
 intro ro ys T K hw
 unfold Lp at hw
 split at hw
 ·exact VCx.liftPure aq (Re _ _) rfl (fun _ _=>rfl) hw
 ·exact hw.elim
theorem HM {a n:Int} (h:ol a n=true):uq a n:=by
 unfold ol at h
 simp only [Bool.and_eq_true,decide_eq_true_eq] at h
 obtain ⟨h1,h2⟩:=h
 have hm:kD n:=by unfold v6 at h2;unfold kD;split at h2<;>split at h2<;>omega
 refine ⟨?_,hm, ?_⟩
 ·rw [h1]
  unfold Bz hJ
  simp only [IntKind.wrap,IntKind.bits,IntKind.signed]
  simp
  omega
 ·unfold Bz at h1
  rw [←h2] at h1
  exact h1.symm
theorem gQ (l:List (Int × Int)):tE (aW l)=l:=by
 unfold tE aW
 rw [List.map_map]
 exact (List.map_congr_left fun p _=>rfl).trans (List.map_id l)
theorem cF (l:List (Int × Int)):(aW l).length=l.length:=List.length_map _
theorem Dt (l:List (Int × Int)):lZ (aW l)= !l.all fun p=>ol p.1 p.2:=by unfold lZ;rw [gQ]
theorem NJ {l:List (Int × Int)} (hn:l.length≤2000000):dD Tryz.prog ae (Ui (aW l) (!lZ (aW l)) (aH Tryz.prog oG 0)):=bL fun p hp=>by
  obtain rfl:=List.mem_singleton.1 hp
  have hS:aZ Tryz.prog ae (aC [(HF,Lp)]):=aJ fun p hp=>by obtain rfl:=List.mem_singleton.1 hp;exact Rf
  rw [Dt,Bool.not_not]
  refine cA fun K hK=> ?_
  refine dS (f:=oG) (id:=0) (by kernel_rfl) 19 Dr (fun j:Nat=>l.length-j) (fun j:Nat=>yE (aW l) 0 j) (fun _=>rW) (fun j=>j≤l.length∧((l.take j).all fun p=>ol p.1 p.2)=true) 1 0 (fun _ _=>⟨Nat.le_refl _,Nat.le_refl _⟩)
    (fun e vs T=>(e= .normal∧(l.all fun p=>ol p.1 p.2)=true∧vs=yE (aW l) 0 (aW l).length∧T=rW)∨(e= .ret∧(l.all fun p=>ol p.1 p.2)=false∧∃(z:Nat) (a n:Int),vs=yE (aW l) z z∧T=⟨[.cells [ut], .cells [.val (.int .u32 a), .val (.int .i64 n)]], []⟩)) (fun j hj=> ?_) 0 ⟨Nat.zero_le _,rfl⟩ K ?_
  · obtain ⟨hj,hall⟩:=hj
    by_cases hlt:j<l.length
    · have hat:(aW l)[((j:Nat):Int).toNat]?=some (cV l[j]):=by rw [Int.toNat_natCast];show (l.map _)[j]?=_;rw [List.getElem?_map,List.getElem?_eq_getElem hlt];rfl
      refine b7 ac aa hS ah (HJ (aW l) l[j].1 l[j].2 j _) ?_
      refine aQ (decide_eq_true (by rw [cF];omega)) ⟨qb rfl rfl (by omega) hat, ?_⟩
      cases hg:ol l[j].1 l[j].2
      · refine aQ rfl ⟨rfl,rfl, .inr ⟨rfl, ?_,j,l[j].1,l[j].2,rfl,rfl⟩⟩
        cases hc:l.all fun p=>ol p.1 p.2
        · rfl
        · have:=List.all_eq_true.1 hc _ (List.getElem_mem hlt);rw [hg] at this;cases this
      · refine aM rfl ⟨rfl,rfl,j+1,⟨hlt, ?_⟩,by show l.length-(j+1)<l.length-j;omega, .inr ⟨rfl, ?_⟩⟩
        · rw [List.take_add_one,List.getElem?_eq_getElem hlt,List.all_append,hall]
          simp only [Option.toList_some,List.all_cons,List.all_nil,Bool.and_true,Bool.true_and]
          exact hg
        · show ar _ _ _=_
          rw [kz hlt hn]
          simp only [ar,TV.ren,Tok.ren,show bg (aw 1) (aw 0) (aW l)=aW l from jF _ _ l]
          rfl
    · have hj2:j=l.length:=by omega
      subst hj2
      rw [List.take_length] at hall
      refine b7 ac aa hS ah (HJ (aW l) 0 0 l.length _) ?_
      exact aM (decide_eq_false (by rw [cF];omega)) ⟨rfl,rfl, .inl ⟨rfl,hall,by simp only [yE,cF],rfl⟩⟩
  · rintro e vs T (⟨rfl,h1,rfl,rfl⟩ | ⟨rfl,h1,z,a,n,rfl,rfl⟩)
    · have:=hK 0 0 0;rw [h1] at this;exact this
    · have:=hK z a n;rw [h1] at this;exact this
theorem Rg {l:List (Int × Int)} (hn:l.length≤2000000):VCx Tryz.prog ae 0 oG [.vec 2 (aW l) .none, .fn (.func QU) [] [.ptr 0 0]] rW fun x T' =>(bif lZ (aW l) then ∃z:Nat,x= .val (.int .i64 (Int.ofNat z)) else x= .val (.int .i64 (-1)))∧T' =rW:=by
 refine VCx.keepQ 1 0 (Nat.le_refl _) (Nat.le_refl _) (ai ac aa an (NJ hn) (Ti (aW l) (!lZ (aW l)) _) ⟨rfl,⟨rfl,rfl,rfl,trivial,rfl,rfl,rfl⟩,fun z a n=> ?_⟩)
 cases h:lZ (aW l)
 ·exact ⟨rfl,rfl⟩
 ·exact ⟨⟨z,rfl⟩,rfl⟩
theorem gi (f g:Nat→Option Nat) (l:List (Int × Int)):bg f g (aW l)=aW l:=jF f g l
theorem NK:∀ro ys T K,Kp ro ys T K→VCx Tryz.prog ae ro oG ys T K:=by
 intro ro ys T K hw
 unfold Kp at hw
 split at hw
 ·rename_i l tok i
  obtain ⟨⟨⟨hro,ho⟩,p,rfl,hp⟩,hk⟩:=hw
  refine VCx.atKeep aq (Nat.le_of_ble_eq_true hro) ho rfl (fun _ _=>rfl) ?_ (Rg hp) fun x hx=> ?_
  ·simp only [ar,TV.ren,gi]
   exact ⟨.vec _ _ _,by simp [bb];exact .refl _,trivial⟩
  ·cases hb:lZ (aW p)<;>rw [hb] at hx hk
   ·subst hx;exact ⟨fun _ _=>rfl,hk⟩
   ·obtain ⟨z,rfl⟩:=hx;exact ⟨fun _ _=>rfl,hk z⟩
 ·exact hw.elim
theorem NL {l:List (Int × Int)} (hn:l.length≤2000000):VCx Tryz.prog ae 0 Bw [.vec 2 (aW l) .none, .fn (.func QU) [] [.ptr 0 0]] rW fun x T' =>x= .val (.bool (lZ (aW l)))∧T' =rW:=by
 refine VCx.keepQ 1 0 (Nat.le_refl _) (Nat.le_refl _) (ai ac aa (aJ fun p hp=>by obtain rfl:=List.mem_singleton.1 hp;exact NK) ah (Q8 (aW l) _) ⟨⟨⟨rfl,rfl⟩,l,rfl,hn⟩, ?_⟩)
 cases h:lZ (aW l)
 ·exact ⟨rfl,rfl⟩
 ·exact fun z=>⟨rfl,rfl⟩
theorem NM:∀ro ys T K,Fc ro ys T K→VCx Tryz.prog ae ro Bw ys T K:=by
 intro ro ys T K hw
 unfold Fc at hw
 split at hw
 ·rename_i l tok i
  obtain ⟨⟨⟨hro,ho⟩,p,rfl,hp⟩,hk⟩:=hw
  refine VCx.atKeep aq (Nat.le_of_ble_eq_true hro) ho rfl (fun _ _=>rfl) ?_ (NL hp) fun x hx=> ?_
  ·simp only [ar,TV.ren,gi]
   exact ⟨.vec _ _ _,by simp [bb];exact .refl _,trivial⟩
  ·subst hx;exact ⟨fun _ _=>rfl,hk⟩
 ·exact hw.elim
def zP (n:Nat):List TV:=(Builtin.zeroCells (Value.agg #[.int .u32 0, .int .i64 0]).cells n).toList.map .val
theorem Rh (f g:Nat→Option Nat) (n:Nat):ar f g (zP n)=zP n:=qz _ _ _
theorem NN {n:Int} (h0:0<n) (h1:n≤2000000):VCx Tryz.prog ae 0 rS [.val (.slice none 0 0), .val (.int .i64 n)] ⟨[], []⟩ fun x T1=>x= .row 2 0 0 0∧T1=⟨[.row (zP n.toNat)], []⟩:=by
 obtain ⟨inf,i1,i2,i3,i4⟩:=pS
 refine ai ac aa an ah (HI n n.toNat (zP n.toNat) ⟨[], []⟩ _) ?_
 have e:IntKind.wrap IntKind.i64 (n-IntKind.wrap IntKind.i64 (((0:Nat):Int)-((0:Nat):Int)))=n:=by
  rw [show IntKind.wrap IntKind.i64 (((0:Nat):Int)-((0:Nat):Int))=0 from rfl,Int.sub_zero,bP (by omega) (by omega)]
 refine aM (decide_eq_false (by omega)) (aQ (decide_eq_true (by rw [e];exact h0)) ⟨?_,rfl,rfl⟩)
 rw [e]
 have hb:n.toNat*(inf.bytes+1)≤140737488355328:=by
  have:=Nat.mul_le_mul (show n.toNat≤2000000 by omega) i3
  omega
 have h:=vY (P:=Tryz.prog) (G:=ae) (ro:=0) (T:=⟨[], []⟩) (t:=58) (tn:=3) (s:= .tmp 20) (x:= .tmp 21) (l:= [(20, .val (.slice none 0 0)),(21, .val (.int .i64 n))]) (inf:=inf) (m:=n) Tryz.underlying58 Tryz.underlying3 i1 i4 (by rw [i2];rfl) (by rw [i2];decide) rfl rfl rfl h0 hb
 rw [i2] at h
 exact h
theorem BG {n:Int} (h0:0<n) (h1:n≤2000000) (ro:Nat) (T:VT):mo n (.row 2 T.objs.length 0 0) {T with objs:=T.objs++ [.row (zP n.toNat)]} ro T:=by
 unfold mo
 refine (VCx.lift (T:=T) [] [] aq List.nodup_nil List.nodup_nil (by simp) (by simp) (by simp) rfl (by rw [VT.give_nil];exact NN h0 h1) (fun _ _ _=>⟨Nat.zero_le _,Nat.zero_le _⟩)).mono ?_
 rintro z T' ⟨x,T'',⟨rfl,rfl⟩,rfl,rfl⟩
 refine ⟨by simp [TV.ren,bf], ?_⟩
 rw [VT.back_nil]
 simp [VO.ren,Rh]
theorem NO (ro:Nat) (T:VT):mo 0 (.val (.slice none 0 0)) T ro T:=by
 unfold mo
 exact VCx.liftPure (y:= .val (.slice none 0 0)) aq (ai ac aa an ah (HI 0 0 [] ⟨[], []⟩ _) ⟨rfl,rfl⟩) rfl (fun _ _=>rfl) ⟨rfl,rfl⟩
theorem zm {gy:TV} {gT:VT}:aZ Tryz.prog ae (aC [(rS,ur gy gT)]):=aJ fun p hp=>by
 obtain rfl:=List.mem_singleton.1 hp
 intro ro ys T K hw
 replace hw:ur gy gT ro ys T K:=hw
 unfold ur at hw
 split at hw
 ·obtain ⟨h,hk⟩:=hw
  exact VCx.mono h fun x T1 ⟨h1,h2⟩=>by subst h1 h2;exact hk
 ·exact hw.elim
theorem Uj {e:TypeId} {t:TypeId} {inf:TypeInfo} {z:Value} {sz:Nat} (ht:Tryz.prog.underlying t=some (.slice e)) (hi:Tryz.prog.info? e=some inf) (hs:inf.size=sz) (hz:inf.zero=some z) (hzs:z.cells.size=sz) (hz1:z.cells.toList.all Value.oneCell' =true) (hbd:inf.bytes+1≤1000)
    {T:VT} {id n m:Nat} {cs cs' :List TV} {q:List TV} {a:Bs} {tok:Tok} (ho:T.objs[id]?=some (.row cs)) (hn:n*sz≤cs.length) (hb:n+a.length+1≤3000000) (hm:m=n+(a.length+1)) (hcs:cs' =cs.take (n*sz)++(q::a).flatten):
    ba Tryz.prog ae 0 T (.call ⟨.builtin .append, #[.tmp 31, .tmp 32], #[t,t]⟩) [(31, .row sz id 0 n),(32, .vec sz (q::a) tok)] (.row sz T.objs.length 0 m) ((T.kill id).newRow cs'):=by
  subst hm hcs hs
  refine kA (P:=Tryz.prog) (G:=ae) (ro:=0) (T:=T) (t:=t) (tx:=t) (s:= .tmp 31) (x:= .tmp 32) (l:= [(31, .row inf.size id 0 n),(32, .vec inf.size (q::a) tok)]) (inf:=inf) (id:=id) (n:=n) (cs:=cs) (q0:=q) (qs:=a) ht hi hz hzs hz1 (by rw [ht];rfl) rfl ho (Nat.zero_le _) hn ?_ ?_
  · show bQ T inf.size (.vec inf.size (q::a) tok)=_
    simp [bQ]
  · have:=Nat.mul_le_mul (show n+(q::a).length≤3000000 by simp only [List.length_cons];omega) hbd
    omega
theorem Ly {T:VT} {id n m:Nat} {cs cs' :List TV} {q:List TV} {a:Bs} {tok:Tok} (ho:T.objs[id]?=some (.row cs)) (hn:n*2≤cs.length) (hb:n+a.length+1≤3000000) (hm:m=n+(a.length+1)) (hcs:cs' =cs.take (n*2)++(q::a).flatten):
  ba Tryz.prog ae 0 T (.call ⟨.builtin .append, #[.tmp 31, .tmp 32], #[58,58]⟩) [(31, .row 2 id 0 n),(32, .vec 2 (q::a) tok)] (.row 2 T.objs.length 0 m) ((T.kill id).newRow cs'):=by
 obtain ⟨inf,i1,i2,i3,i4⟩:=pS
 exact Uj Tryz.underlying58 i1 i2 i4 rfl (by decide) i3 ho hn hb hm hcs
theorem HN {T:VT} {id n m:Nat} {cs cs' :List TV} {q:List TV} {a:Bs} {tok:Tok} (ho:T.objs[id]?=some (.row cs)) (hn:n*1≤cs.length) (hb:n+a.length+1≤3000000) (hm:m=n+(a.length+1)) (hcs:cs' =cs.take (n*1)++(q::a).flatten):
  ba Tryz.prog ae 0 T (.call ⟨.builtin .append, #[.tmp 31, .tmp 32], #[22,22]⟩) [(31, .row 1 id 0 n),(32, .vec 1 (q::a) tok)] (.row 1 T.objs.length 0 m) ((T.kill id).newRow cs'):=by
 obtain ⟨inf,i1,i2,i3,i4⟩:=dn
 exact Uj Tryz.underlying22 i1 i2 i4 rfl (by decide) (by omega) ho hn hb hm hcs
theorem wz {m:Nat} (hm:m≤3000000):IntKind.wrap IntKind.i64 ((0:Int)+(m:Int))=(m:Int):=by rw [Int.zero_add,bP (by omega) (by omega)]
theorem wa {a b:Nat} (h:a+b≤3000000):IntKind.wrap IntKind.i64 ((a:Int)+(b:Int))=((a+b:Nat):Int):=by rw [bP (by omega) (by omega)];omega
theorem rX {b:Nat}:decide (((b:Nat):Int)<0)=false:=decide_eq_false (by omega)
theorem Du:∀l:List (Int × Int),(aW l).flatten.length=l.length*2:=fun l=>by
 rw [bJ (size:=2) (fun e he=>by obtain ⟨p,_,rfl⟩:=List.mem_map.1 he;rfl),cF]
theorem Ri {a b:List (Int × Int)} {tok tok1 tok2:Tok} (ha:a.length≤100000) (hb:b.length≤100000):VCx Tryz.prog ae 0 rU [.vec 1 [[.vec 2 (aW a) tok1], [.vec 2 (aW b) tok2]] tok] ⟨[], []⟩ fun x T' =>x= .vec 2 (aW a++aW b) .none∧T' =⟨[], []⟩:=by
 have hz:∀l:List (Int × Int),∀e∈aW l,e.length=2:=fun l e he=>by obtain ⟨p,_,rfl⟩:=List.mem_map.1 he;rfl
 have hza:∀e∈aW a++aW b,e.length=2:=fun e he=>by rcases List.mem_append.1 he with h | h<;>exact hz _ e h
 have hren:∀f g,bg f g (aW a++aW b)=aW a++aW b:=fun f g=>by rw [cq,List.map_append,←cq,←cq,gi,gi]
 cases a with
 | nil=>
  cases b with
  | nil=>exact VCx.toLe (Q:=fun T' =>T' =⟨[], []⟩) (ai ac aa zm ah (Q7 tok tok1 tok2 _) ⟨NO _ _, .nil 2,rfl⟩)
  | cons r b=>
   refine VCx.freezeRow hren (ai ac aa zm ah (Q6 (cV r) (aW b) (b.length+1) (zP (b.length+1)) tok tok1 tok2 ⟨[.gone, .row (aW (r::b)).flatten], []⟩ _) ?_)
   have w0:IntKind.wrap IntKind.i64 ((0:Int)+((0:Nat):Int))=((0:Nat):Int):=rfl
   have hlen:(cV r::aW b).length=b.length+1:=by rw [List.length_cons,cF]
   rw [w0,hlen,wa (by simp only [List.length_cons] at hb;omega),Nat.zero_add]
   refine aM rX ⟨BG (n:=((b.length+1:Nat):Int)) (by omega) (by simp only [List.length_cons] at hb;omega) 0 ⟨[], []⟩, ?_,gz rfl hza ?_⟩
   ·exact Ly (q:=cV r) (a:=aW b) (n:=0) (cs:=zP (b.length+1)) rfl (by omega) (by rw [cF];simp only [List.length_cons] at hb;omega) (by rw [cF,Nat.zero_add]) (by rw [Nat.zero_mul,List.take_zero];rfl)
   ·simp [aW]
 | cons q a=>
  have hlen:(cV q::aW a).length=a.length+1:=by rw [List.length_cons,cF]
  cases b with
  | nil=>
   refine VCx.freezeRow hren (ai ac aa zm ah (Q5 (cV q) (aW a) (a.length+1) (zP (a.length+1)) tok tok1 tok2 ⟨[.gone, .row (aW (q::a)).flatten], []⟩ _) ?_)
   have hb2:a.length+1≤100000:=by simpa using ha
   rw [hlen,wz (by omega),wa (by omega),Nat.add_zero]
   refine aM rX (aM rX ⟨BG (n:=((a.length+1:Nat):Int)) (by omega) (by omega) 0 ⟨[], []⟩, ?_,gz (by simp [aW]) hza ?_⟩)
   ·exact Ly (q:=cV q) (a:=aW a) (n:=0) (cs:=zP (a.length+1)) rfl (by omega) (by rw [cF];omega) (by rw [cF,Nat.zero_add]) (by rw [Nat.zero_mul,List.take_zero];rfl)
   ·simp [aW]
  | cons r b=>
   have hlen2:(cV r::aW b).length=b.length+1:=by rw [List.length_cons,cF]
   have hb2:a.length+1≤100000:=by simpa using ha
   have hb3:b.length+1≤100000:=by simpa using hb
   refine VCx.freezeRow hren (ai ac aa zm ah (NI (cV q) (cV r) (aW a) (aW b) (a.length+1) [] tok tok1 tok2 (.row 2 2 0 ((a.length+1)+(b.length+1))) ⟨[.row (zP ((a.length+1)+(b.length+1)))], []⟩ ⟨[.gone, .row (aW (q::a)).flatten], []⟩ ⟨[.gone, .gone, .row ((aW (q::a)).flatten++(aW (r::b)).flatten)], []⟩ _) ?_)
   rw [hlen,hlen2,wz (by omega),wa (by omega)]
   refine aM rX (aM rX ⟨BG (n:=(((a.length+1)+(b.length+1):Nat):Int)) (by omega) (by omega) 0 ⟨[], []⟩, ?_, ?_,gz (by simp [aW]) hza ?_⟩)
   ·exact Ly (q:=cV q) (a:=aW a) (n:=0) (cs:=zP ((a.length+1)+(b.length+1))) rfl (by omega) (by rw [cF];omega) (by rw [cF,Nat.zero_add]) (by rw [Nat.zero_mul,List.take_zero];rfl)
   ·exact Ly (q:=cV r) (a:=aW b) (T:=⟨[.gone, .row (aW (q::a)).flatten], []⟩) (id:=1) (n:=a.length+1) (cs:=(aW (q::a)).flatten) rfl (by rw [Du];simp) (by rw [cF];omega) (by rw [cF]) (by rw [List.take_of_length_le (by rw [Du];simp)];rfl)
   ·simp [aW];omega
theorem NP:∀ro ys T K,Fd ro ys T K→VCx Tryz.prog ae ro rU ys T K:=by
 intro ro ys T K hw
 unfold Fd at hw
 split at hw
 ·rename_i a tok1 b tok2 tok
  obtain ⟨⟨⟨a,rfl,ha⟩,b,rfl,hb⟩,hk⟩:=hw
  refine VCx.liftPure aq (Ri ha hb) (by simp only [ar,bg,TV.ren,gi];rfl) (fun f g=> ?_) hk
  simp only [TV.ren,Tok.ren]
  rw [cq,List.map_append,←cq,←cq,gi,gi]
 ·exact hw.elim
theorem Dv (a b:List (Int × Int)):aW a++aW b=aW (a++b):=(List.map_append ..).symm
theorem NQ {a b:List (Int × Int)} {tok tok1 tok2:Tok} (ha:a.length≤100000) (hb:b.length≤100000):VCx Tryz.prog ae 0 Bx [ut, .vec 1 [[.vec 2 (aW a) tok1], [.vec 2 (aW b) tok2]] tok] ⟨[], []⟩ fun x T' =>x= .val (.bool (!lZ (aW a++aW b)))∧T' =⟨[], []⟩:=by
 have hS:aZ Tryz.prog ae (aC [(rU,Fd),(Bw,Fc)]):=aJ fun p hp=>by
  rcases List.mem_cons.1 hp with rfl | hp;exact NP
  obtain rfl:=List.mem_singleton.1 hp;exact NM
 exact VCx.keepQ 0 0 (Nat.le_refl _) (Nat.le_refl _) (ai ac aa hS ah (Q9 (aW a) (aW b) tok tok1 tok2 _) ⟨⟨⟨a,rfl,ha⟩,b,rfl,hb⟩,⟨⟨rfl,rfl⟩,a++b,Dv a b,by rw [List.length_append];omega⟩,rfl,rfl⟩)
theorem NR:∀ro ys T K,Fe ro ys T K→VCx Tryz.prog ae ro Bx ys T K:=by
 intro ro ys T K hw
 unfold Fe at hw
 split at hw
 ·rename_i a tok1 b tok2 tok
  obtain ⟨⟨⟨a,rfl,ha⟩,b,rfl,hb⟩,hk⟩:=hw
  exact VCx.liftPure aq (NQ ha hb) (by simp only [ar,bg,TV.ren,gi];rfl) (fun _ _=>rfl) hk
 ·exact hw.elim
end
section
open Go.RowKit

theorem xq {b:Bs} (h:IsB b):∀e∈b,e.length=1:=h.len1
theorem Rj {a b c:Bs} {tok tok1 tok2 tok3:Tok} (h:BC a b c):VCx Tryz.prog ae 0 pm [.vec 1 [[.vec 1 a tok1], [.vec 1 b tok2], [.vec 1 c tok3]] tok] ⟨[], []⟩ fun x T' =>x= .vec 1 (a++(b++c)) .none∧T' =⟨[], []⟩:=by
 obtain ⟨⟨ha,hane⟩,⟨hb,hbne⟩,hc,hl⟩:=h
 have hbc:IsB (b++c):=IsB.append hb hc (by rw [List.length_append];omega)
 have habc:IsB (a++(b++c)):=IsB.append ha hbc (by rw [List.length_append,List.length_append];omega)
 have hfa:=qc ha
 have hfb:=qc hb
 have hz:=xq habc
 match a,b,hane,hbne with
 | q::a,r::b,_,_=>
  have hz2:(zR ((q::a).length+(r::b).length)).length=_:=QP _
  cases c with
  | nil=>
   refine VCx.freezeRow habc.ren (ai ac aa Bv ah (Rb q r a b (q::a).length ((q::a).length+(r::b).length) tok tok1 tok2 tok3 (.row 1 2 0 0) ⟨[.row (zR ((q::a).length+(r::b).length+0))], []⟩ ⟨[.gone, .row (q::a).flatten], []⟩ ⟨[.gone, .gone, .row ((q::a).flatten++(r::b).flatten)], []⟩ ⟨[], []⟩ _) ?_)
   rw [wz (by omega),wa (by omega),wa (by simp only [List.length_cons] at hl ⊢;omega)]
   refine aM rX (aM rX (aM rX ⟨vZ (n:=(((q::a).length+(r::b).length+0:Nat):Int)) (by simp only [List.length_cons];omega) (by omega) 0 ⟨[], []⟩, ?_, ?_,gz (by simp) hz (by simp;omega)⟩))
   ·exact HN (q:=q) (a:=a) (n:=0) (cs:=zR ((q::a).length+(r::b).length+0)) rfl (by omega) (by simp only [List.length_cons] at hl;omega) (by simp only [List.length_cons];omega) (by rw [Nat.zero_mul,List.take_zero];rfl)
   ·exact HN (q:=r) (a:=b) (T:=⟨[.gone, .row (q::a).flatten], []⟩) (id:=1) (n:=(q::a).length) (cs:=(q::a).flatten) rfl (by rw [hfa];omega) (by simp only [List.length_cons] at hl ⊢;omega) (by simp only [List.length_cons]) (by rw [List.take_of_length_le (by rw [hfa];omega)])
  | cons s c=>
   refine VCx.freezeRow habc.ren (ai ac aa Bv ah (Tq q r s a b c (q::a).length ((q::a).length+(r::b).length) tok tok1 tok2 tok3 (.row 1 3 0 ((q::a).length+(r::b).length+(s::c).length)) ⟨[.row (zR ((q::a).length+(r::b).length+(s::c).length))], []⟩ ⟨[.gone, .row (q::a).flatten], []⟩ ⟨[.gone, .gone, .row ((q::a).flatten++(r::b).flatten)], []⟩ ⟨[.gone, .gone, .gone, .row ((q::a).flatten++(r::b).flatten++(s::c).flatten)], []⟩ _) ?_)
   rw [wz (by omega),wa (by omega),wa (by omega)]
   refine aM rX (aM rX (aM rX ⟨vZ (n:=(((q::a).length+(r::b).length+(s::c).length:Nat):Int)) (by simp only [List.length_cons];omega) (by omega) 0 ⟨[], []⟩, ?_, ?_, ?_,gz (by simp) hz (by simp;omega)⟩))
   ·exact HN (q:=q) (a:=a) (n:=0) (cs:=zR ((q::a).length+(r::b).length+(s::c).length)) rfl (by omega) (by simp only [List.length_cons] at hl;omega) (by simp only [List.length_cons];omega) (by rw [Nat.zero_mul,List.take_zero];rfl)
   ·exact HN (q:=r) (a:=b) (T:=⟨[.gone, .row (q::a).flatten], []⟩) (id:=1) (n:=(q::a).length) (cs:=(q::a).flatten) rfl (by rw [hfa];omega) (by simp only [List.length_cons] at hl ⊢;omega) (by simp only [List.length_cons]) (by rw [List.take_of_length_le (by rw [hfa];omega)])
   ·exact HN (q:=s) (a:=c) (T:=⟨[.gone, .gone, .row ((q::a).flatten++(r::b).flatten)], []⟩) (id:=2) (n:=(q::a).length+(r::b).length) (cs:=(q::a).flatten++(r::b).flatten) rfl (by rw [List.length_append,hfa,hfb];omega) (by simp only [List.length_cons] at hl ⊢;omega) (by simp only [List.length_cons]) (by rw [List.take_of_length_le (by rw [List.length_append,hfa,hfb];omega)])
theorem NS:∀ro ys T K,Ff ro ys T K→VCx Tryz.prog ae ro pm ys T K:=by
 intro ro ys T K hw
 unfold Ff at hw
 split at hw
 ·rename_i a tok1 b tok2 c tok3 tok
  obtain ⟨h,hk⟩:=hw
  have hbc:IsB (b++c):=IsB.append h.2.1.1 h.2.2.1 (by have:=h.2.2.2;rw [List.length_append];omega)
  have habc:IsB (a++(b++c)):=IsB.append h.1.1 hbc (by have:=h.2.2.2;rw [List.length_append,List.length_append];omega)
  exact VCx.liftPure aq (Rj h) (by simp only [ar,bg,TV.ren,h.1.1.ren,h.2.1.1.ren,h.2.2.1.ren];rfl) (fun f g=>by simp only [TV.ren,habc.ren,Tok.ren]) hk
 ·exact hw.elim
theorem Rk {b:Bs} (hb:xp b):VCx Tryz.prog ae 0 By [.vec 1 b .none] ⟨[], []⟩ fun x T' =>x= .vec 1 (ap 2 b.length++b) .none∧T' =⟨[], []⟩:=by
 have hp:=cM (k:=2) (b.length:Int) (by decide)
 have hl:=aX (k:=2) (b.length:Int)
 have hi:=IsB.append hp hb.1 (by rw [List.length_append,hl];have:=hb.2;omega)
 refine VCx.toLe (Q:=fun T' =>T' =⟨[], []⟩) (VCx.keepQ 0 0 (Nat.le_refl _) (Nat.le_refl _) (ai ac aa (aJ fun p hp=>by obtain rfl:=List.mem_singleton.1 hp;exact Ds) ah (Tk b (ap 2 b.length++b) (0+b.length) _) ⟨rfl,⟨⟨by omega,by have:=hb.2;omega⟩,by decide,by decide⟩, ?_, ?_,rfl⟩))
 ·exact iO (ro:=0) (T:=⟨[], [(0,1,false)]⟩) (T1:=⟨[], [(0,1,false)]⟩) (s:= .tmp 5) (x:= .tmp 6) (l:= [(5, .vec 1 (ap 2 b.length) (.tail 0 0)),(6, .vec 1 b .none)]) (es:=ap 2 b.length) (es2:=b) (k:=0) (n:=0) (bn:=false) rfl rfl (by rw [hl];have:=hb.2;omega)
 ·simp only [TV.ren,hi.ren]
  exact .vec 1 _ _
theorem NT:VCx Tryz.prog ae 0 By [.val (.slice none 0 0)] ⟨[], []⟩ fun x T' =>x= .vec 1 (ap 2 0) .none∧T' =⟨[], []⟩:=by
  have hp:=cM (k:=2) 0 (by decide)
  refine VCx.toLe (Q:=fun T' =>T' =⟨[], []⟩) (VCx.keepQ 0 0 (Nat.le_refl _) (Nat.le_refl _) (ai ac aa (aJ fun p hp=>by obtain rfl:=List.mem_singleton.1 hp;exact Ds) ah (Ra (ap 2 0) 0 _) ⟨rfl,⟨⟨by decide,by decide⟩,by decide,by decide⟩, ?_, ?_,rfl⟩))
  · have h:=iO (ro:=0) (T:=⟨[], [(0,1,false)]⟩) (T1:=⟨[], [(0,1,false)]⟩) (s:= .tmp 5) (x:= .tmp 6) (l:= [(5, .vec 1 (ap 2 0) (.tail 0 0)),(6, .val (.slice none 0 0))]) (es:=ap 2 0) (es2:= []) (k:=0) (n:=0) (bn:=false) rfl rfl (by rw [aX];decide)
    rw [List.append_nil] at h
    exact h
  · simp only [TV.ren,hp.ren]
    exact .vec 1 _ _
theorem Rl:∀ro ys T K,Lu ro ys T K→VCx Tryz.prog ae ro By ys T K:=by
 intro ro ys T K hw
 unfold Lu at hw
 split at hw
 ·exact VCx.liftPure aq NT rfl (fun f g=>by simp only [TV.ren,(cM (k:=2) 0 (by decide)).ren,Tok.ren]) hw
 ·rename_i b tok
  obtain ⟨hb,hk⟩:=hw
  have hi:=IsB.append (cM (k:=2) (b.length:Int) (by decide)) hb.1 (by rw [List.length_append,aX];have:=hb.2;omega)
  refine VCx.loosePure aq (Rk hb) (by simp [bG]) (by simp only [ar,TV.ren,hb.1.ren,Tok.ren]) (fun f g=>by simp only [TV.ren,hi.ren,Tok.ren]) hk
 ·exact hw.elim
theorem UpV.ren (u:UpV) (f g:Nat→Option Nat):ar f g u.cells=u.cells:=by
 simp only [UpV.cells,ar,TV.ren,dd,gi,Tok.ren]
theorem Rm (ok:Bool):∀ro ys T K,Lq ok ro ys T K→VCx Tryz.prog ae ro yx ys T K:=by
 intro ro ys T K hw
 unfold Lq at hw
 split at hw
 ·obtain ⟨⟨a,rfl,hn,rfl,rfl⟩,hk⟩:=hw
  refine VCx.liftPure aq (xs:= [.agg a.cells, .agg QV]) (VCx.argsLe (xs:= [.agg a.cells, .agg yD.cells]) ?_ (HD a yD hn (Nat.zero_le _))) ?_ (fun _ _=>rfl) hk
  ·exact ⟨.refl _, .agg ⟨.refl _, .nil 1, .refl _, .refl _, .refl _,trivial⟩,trivial⟩
  ·simp only [ar,TV.ren,a.ren];rfl
 ·exact hw.elim
theorem Rn (ok:Bool):∀ro ys T K,Lr ok ro ys T K→VCx Tryz.prog ae ro yx ys T K:=by
 intro ro ys T K hw
 unfold Lr at hw
 split at hw
 ·obtain ⟨⟨a,b,⟨rfl,rfl⟩,⟨hn,hn2⟩,rfl⟩,hk⟩:=hw
  exact VCx.liftPure aq (HD a b hn hn2) (by simp only [ar,TV.ren,a.ren,b.ren]) (fun _ _=>rfl) hk
 ·exact hw.elim
theorem Ro (v:Bs):∀ro ys T K,Ls v ro ys T K→VCx Tryz.prog ae ro Hs ys T K:=by
 intro ro ys T K hw
 unfold Ls at hw
 split at hw
 ·obtain ⟨⟨a,rfl,hn,hh,rfl⟩,hk⟩:=hw
  exact VCx.liftPure aq (QK a hn hh) (by simp only [ar,TV.ren,a.ren]) (fun f g=>by simp only [TV.ren,(Bu a).ren,Tok.ren]) hk
 ·exact hw.elim
theorem Rp:∀ro ys T K,Lt ro ys T K→VCx Tryz.prog ae ro nB ys T K:=by
 intro ro ys T K hw
 unfold Lt at hw
 split at hw
 ·obtain ⟨⟨p,rfl,hp⟩,hk⟩:=hw
  unfold jX at hk
  rw [gQ] at hk
  exact VCx.loosePure aq (Ny hp) (by simp [bG,aW]) (by simp only [ar,TV.ren,jF,Tok.ren]) (fun f g=>by simp only [TV.ren,(lc hp).ren,Tok.ren]) hk
 ·exact hw.elim
theorem Rq:∀ro ys T K,Lx ro ys T K→VCx Tryz.prog ae ro rN ys T K:=by
 intro ro ys T K hw
 unfold Lx at hw
 split at hw
 ·obtain ⟨⟨p,q,⟨rfl,rfl⟩,hp⟩,hk⟩:=hw
  have e:BD (aW p) (aW q)=decide (p=q):=by unfold BD;rw [gQ,gQ]
  rw [e] at hk
  exact VCx.loosePure aq (Qv hp) (by simp [bG]) (by simp only [ar,TV.ren,gi,Tok.ren]) (fun _ _=>rfl) hk
 ·exact hw.elim
theorem Rr {u:UpV} (hu:iD u):VCx Tryz.prog ae 0 HG [.agg u.cells] ⟨[], []⟩ fun x T' =>x= .val (.bool (iZ u))∧T' =⟨[], []⟩:=by
 obtain ⟨h1,h2,h3,h4,h5⟩:=hu
 have hS:aZ Tryz.prog ae (aC [(Bx,Fe),(Bo,Dm (ig u.a)),(yx,Lq (decide (u.a=yD)))]):=aJ fun p hp=>by
  rcases List.mem_cons.1 hp with rfl | hp;exact NR
  rcases List.mem_cons.1 hp with rfl | hp;exact HC _
  obtain rfl:=List.mem_singleton.1 hp;exact Rm _
 refine VCx.keepQ 0 0 (Nat.le_refl _) (Nat.le_refl _) (ai ac aa hS ah (Tj (aW u.w) (iV u.a.p) (aW u.n) u.a.o u.a.h u.a.m u.a.hm (ig u.a) (decide (u.a=yD)) _) ⟨⟨⟨_,rfl,by omega⟩,_,rfl,by omega⟩, ?_⟩)
 rw [Dv,Dt,Bool.not_not,cF]
 have fin:∀(q:Bool) (T:VT),iZ u=q→((TV.val (.bool q)).ren (aw 0) (aw 0)= .val (.bool (iZ u))∧T.keep 0 0=⟨[], []⟩):=fun b T h=>⟨by rw [h];rfl,by simp [VT.keep]⟩
 cases hg:(u.w++u.n).all fun p=>ol p.1 p.2
 ·exact aQ rfl (fin false _ (by unfold iZ;rw [hg];rfl))
 ·refine aM rfl (am (fun c=>⟨⟨u.a,rfl,h3,rfl⟩,fin _ _ ?_⟩) (fun c=>⟨⟨u.a,rfl,h3,rfl,rfl⟩,fin _ _ ?_⟩))
  ·unfold iZ;rw [hg,c];rfl
  ·unfold iZ;rw [hg,c];rfl
theorem Rs (ok:Bool):∀ro ys T K,Lv ok ro ys T K→VCx Tryz.prog ae ro HG ys T K:=by
 intro ro ys T K hw
 unfold Lv at hw
 split at hw
 ·obtain ⟨⟨u,rfl,hu,rfl⟩,hk⟩:=hw
  exact VCx.liftPure aq (Rr hu) (by simp only [ar,TV.ren,u.ren]) (fun _ _=>rfl) hk
 ·exact hw.elim
theorem BH {u:UpV} (hu:iD u) (hg:iZ u=true):mn u.w∧mn u.n:=by
 obtain ⟨h1,h2,_⟩:=hu
 unfold iZ at hg
 have h:=(Bool.and_eq_true _ _▸hg).1
 rw [List.all_eq_true] at h
 exact ⟨⟨fun p hp=>HM (h p (List.mem_append.2 (.inl hp))),by omega⟩,⟨fun p hp=>HM (h p (List.mem_append.2 (.inr hp))),by omega⟩⟩
theorem Rt (u:UpV):IsB (dG u)∧(dG u).length≤10040:=by
 unfold dG
 cases decide ((u.n.length:Int)>0)
 ·exact ⟨.nil,Nat.zero_le _⟩
 ·exact ⟨Bu _,Dp _⟩
theorem rY {b:Bs} (h:0<b.length):b≠ []:=List.length_pos_iff.1 h
theorem HP {u:UpV} (hu:iD u) (hg:iZ u=true):BC (ap 2 (bB u.w).length++bB u.w) (ap 2 (dG u).length++dG u) (bB u.n):=by
 obtain ⟨hw,hn⟩:=BH hu hg
 obtain ⟨h1,h2,_⟩:=hu
 obtain ⟨a1,a2⟩:=Rt u
 have l1:=lb u.w
 have l2:=lb u.n
 have p2:∀z:Int,(ap 2 z).length=2:=fun z=>aX z
 refine ⟨⟨IsB.append (cM _ (by decide)) (lc hw) ?_,rY ?_⟩,⟨IsB.append (cM _ (by decide)) a1 ?_,rY ?_⟩,lc hn, ?_⟩<;>simp only [List.length_append,p2]<;>omega
theorem v8 {u:UpV} (hu:iD u) (hg:iZ u=true):IsB (dV u):=by
 have h:=HP hu hg
 exact IsB.append h.1.1 (IsB.append h.2.1.1 h.2.2.1 (by have:=h.2.2.2;simp only [List.length_append] at this ⊢;omega)) (by have:=h.2.2.2;simp only [List.length_append] at this ⊢;omega)
theorem Ru {u:UpV} (hu:iD u) (hg:iZ u=true):VCx Tryz.prog ae 0 HH [.agg u.cells] ⟨[], []⟩ fun x T' =>x= .vec 1 (dV u) .none∧T' =⟨[], []⟩:=by
 have hS:aZ Tryz.prog ae (aC [(Hs,Ls (nD u.a)),(nB,Lt),(By,Lu),(pm,Ff)]):=aJ fun p hp=>by
  rcases List.mem_cons.1 hp with rfl | hp;exact Ro _
  rcases List.mem_cons.1 hp with rfl | hp;exact Rp
  rcases List.mem_cons.1 hp with rfl | hp;exact Rl
  obtain rfl:=List.mem_singleton.1 hp;exact NS
 obtain ⟨hw,hn⟩:=BH hu hg
 have hc:=HP hu hg
 have hB:=v8 hu hg
 have l1:=lb u.w
 obtain ⟨h1,h2,h3,h4,h5⟩:=hu
 have e1:jX (aW u.w)=bB u.w:=by unfold jX;rw [gQ]
 have e2:jX (aW u.n)=bB u.n:=by unfold jX;rw [gQ]
 have fin:∀(v:Bs) (T:VT),v=dV u→((TV.vec 1 v .none).ren (aw 0) (aw 0)= .vec 1 (dV u) .none∧T.keep 0 0=⟨[], []⟩):=fun v T h=>⟨by subst h;simp only [TV.ren,hB.ren,Tok.ren],by simp [VT.keep]⟩
 refine VCx.keepQ 0 0 (Nat.le_refl _) (Nat.le_refl _) (ai ac aa hS ah (Tm (aW u.w) (iV u.a.p) (aW u.n) (nD u.a) u.a.o u.a.h u.a.m u.a.hm _) ?_)
 rw [e1,e2,cF]
 have cw:xp (bB u.w):=⟨lc hw,by omega⟩
 have hA:∀c,decide ((u.n.length:Int)>0)=c→dG u=bif c then nD u.a else []:=fun c h=>by unfold dG;rw [h]
 refine am (fun c=> ?_) (fun c=> ?_)
 ·have e:=hA _ c
  simp only [cond_true] at e
  rw [e] at hc
  exact ⟨⟨u.a,rfl,h3,⟨h4,h5⟩,rfl⟩,⟨_,rfl,hw⟩,⟨rfl,rfl,trivial⟩,cw,⟨rfl,rfl,trivial⟩,⟨Bu _,by have:=Dp u.a;omega⟩,⟨rfl,rfl,trivial⟩,⟨_,rfl,hn⟩,hc,fin _ _ (by unfold dV;rw [e])⟩
 ·have e:=hA _ c
  simp only [cond_false] at e
  have e2:ap (2:Int) ((([]:Bs).length:Nat):Int)++ []=ap 2 0:=by rw [List.append_nil];rfl
  rw [e,e2] at hc
  exact ⟨⟨_,rfl,hw⟩,⟨rfl,rfl,trivial⟩,cw,⟨rfl,rfl,trivial⟩,⟨rfl,rfl,trivial⟩,⟨_,rfl,hn⟩,hc,fin _ _ (by unfold dV;rw [e,e2])⟩
def gm (u:UpV):Bs:=bif iZ u then (bif decide (((dV u).length:Int)≤4077) then dV u else []) else []
theorem Rv (v:Bs):∀ro ys T K,Lw v ro ys T K→VCx Tryz.prog ae ro HH ys T K:=by
 intro ro ys T K hw
 unfold Lw at hw
 split at hw
 ·obtain ⟨⟨u,rfl,⟨hu,hg⟩,rfl⟩,hk⟩:=hw
  exact VCx.liftPure aq (Ru hu hg) (by simp only [ar,TV.ren,u.ren]) (fun f g=>by simp only [TV.ren,(v8 hu hg).ren,Tok.ren]) hk
 ·exact hw.elim
theorem rZ {u:UpV} (hu:iD u):IsB (gm u)∧(gm u).length≤4077:=by
 unfold gm
 cases hg:iZ u
 ·exact ⟨.nil,Nat.zero_le _⟩
 ·cases c:decide (((dV u).length:Int)≤4077)
  ·exact ⟨.nil,Nat.zero_le _⟩
  ·exact ⟨v8 hu hg,by have:=of_decide_eq_true c;show (dV u).length≤_;omega⟩
theorem Rw {u:UpV} (hu:iD u):VCx Tryz.prog ae 0 Lm [.agg u.cells] ⟨[], []⟩ fun x T' =>x= .vec 1 (gm u) .none∧T' =⟨[], []⟩:=by
 have hS:aZ Tryz.prog ae (aC [(HG,Lv (iZ u)),(HH,Lw (dV u))]):=aJ fun p hp=>by
  rcases List.mem_cons.1 hp with rfl | hp;exact Rs _
  obtain rfl:=List.mem_singleton.1 hp;exact Rv _
 refine VCx.toLe (Q:=fun T' =>T' =⟨[], []⟩) (VCx.keepQ 0 0 (Nat.le_refl _) (Nat.le_refl _) (ai ac aa hS ah (Tn (aW u.w) (iV u.a.p) (aW u.n) (dV u) u.a.o u.a.h u.a.m u.a.hm (iZ u) _) ⟨⟨u,rfl,hu,rfl⟩, ?_⟩))
 cases hg:iZ u
 ·exact aQ rfl ⟨by unfold gm;rw [hg];exact .nil 1,by simp [VT.keep]⟩
 ·have hB:=v8 hu hg
  refine aM rfl ⟨⟨u,rfl,⟨hu,hg⟩,rfl⟩,am (fun c=>⟨?_,by simp [VT.keep]⟩) (fun c=>⟨?_,by simp [VT.keep]⟩)⟩
  ·unfold gm;rw [hg,c];simp only [TV.ren,hB.ren,Tok.ren];exact .refl _
  ·unfold gm;rw [hg,c];exact .nil 1
theorem Rx {u v:UpV} (hu:iD u) (hv:v.a.p.length≤2000000):VCx Tryz.prog ae 0 Ln [.agg u.cells, .agg v.cells] ⟨[], []⟩ fun x T' =>x= .val (.bool (decide (u=v)))∧T' =⟨[], []⟩:=by
  have hS:aZ Tryz.prog ae (aC [(rN,Lx),(yx,Lr (decide (u.a=v.a)))]):=aJ fun p hp=>by
    rcases List.mem_cons.1 hp with rfl | hp;exact Rq
    obtain rfl:=List.mem_singleton.1 hp;exact Rn _
  obtain ⟨h1,h2,h3,_⟩:=hu
  have e:∀p q,BD (aW p) (aW q)=decide (p=q):=fun p q=>by unfold BD;rw [gQ,gQ]
  refine VCx.keepQ 0 0 (Nat.le_refl _) (Nat.le_refl _) (ai ac aa hS ah (To (aW u.w) (iV u.a.p) (aW u.n) (aW v.w) (iV v.a.p) (aW v.n) u.a.o u.a.h u.a.m v.a.o v.a.h v.a.m u.a.hm v.a.hm (decide (u.a=v.a)) _) ?_)
  rw [e,e]
  have fin:∀(q:Bool) (T:VT),decide (u=v)=q→((TV.val (.bool q)).ren (aw 0) (aw 0)= .val (.bool (decide (u=v)))∧T.keep 0 0=⟨[], []⟩):=fun b T h=>⟨by rw [h];rfl,by simp [VT.keep]⟩
  refine ⟨⟨_,_,⟨rfl,rfl⟩,by omega⟩,am (fun c1=>⟨⟨_,_,⟨rfl,rfl⟩,by omega⟩,am (fun c2=>⟨⟨u.a,v.a,⟨rfl,rfl⟩,⟨h3,hv⟩,rfl⟩,fin _ _ ?_⟩) (fun c2=>fin _ _ ?_)⟩) (fun c1=>fin _ _ ?_)⟩
  · refine decide_eq_decide.2 ⟨fun h=>by rw [h],fun h=> ?_⟩
    have d1:=of_decide_eq_true c1
    have d2:=of_decide_eq_true c2
    obtain ⟨w,a,n⟩:=u
    obtain ⟨w2,a2,n2⟩:=v
    simp only at d1 d2 h
    rw [d1,d2,h]
  · exact decide_eq_false fun h=>of_decide_eq_false c2 (by rw [h])
  · exact decide_eq_false fun h=>of_decide_eq_false c1 (by rw [h])
end
section
open Go.RowKit

abbrev LA:=107
abbrev HQ:=146
abbrev pn:=127
abbrev BI:=130
abbrev sa:=129
abbrev LB:=99
abbrev BJ:=104
abbrev tF:=103
abbrev LC:=59
abbrev LD:=85
abbrev LE:=101
abbrev LF:=61
abbrev nF:=55
abbrev yF:=35
abbrev Ry:=34
abbrev Rz:=33
def bZ (b:Bs):List Int:=b.map eJ
def Kt (a b:Bs):Prop:=IsB a∧IsB b
def v9 (a b:Bs):Bool:=decide (bZ a=bZ b)
def lI (c:Int) (v:Bs):Bool:=decide (0≤c)&&(decide (c≤255)&&decide (v.length≤100))
def oH (c:Int) (v:Bs):Prop:=(0≤c∧c≤255)∧IsB v∧v.length≤100
def ja (c:Int) (v:Bs):Bs:=ap 1 c++ap 1 v.length++v
def Dw:List TV→Int × List Int
 | [.val (.int _ c), .vec _ v _]=>(c,bZ v)
 | _=>(0, [])
abbrev cR:=List (Int × List Int)
def wb (c:Int × List Int):List TV:= [.val (.int .i64 c.1), .vec 1 (bV c.2) .none]
def bv (l:cR):Bs:=l.map wb
def byt (l:List Int):Prop:=(∀z∈l,0≤z∧z<256)∧l.length≤1000000
def yG (l:cR):Prop:=(∀c∈l,∀z∈c.2,0≤z∧z<256)∧l.length≤2000000
def jK (l:cR):Prop:=(∀c∈l,byt c.2)∧l.length≤2000000
def bN:cR→Nat
 | []=>0
 | c::l=>c.2.length+2+bN l
def ld (l:cR):Bool:=l.all (fun c=>lI c.1 (bV c.2))&&decide (bN l≤200)
def cf (l:cR):Bs:=l.flatMap fun c=>ja c.1 (bV c.2)
def nG (l:Bs):Bs:=cf (l.map Dw)
def RA (l:Bs):Prop:=∃c:cR,l=bv c∧yG c∧ld c=true
def Ku (v w:Bs):Prop:=IsB v∧IsB w
def uu (c:Int) (v:Bs) (d:Int) (w:Bs):Bool:=decide (c=d)&&v9 v w
def BK (l m:Bs):Bool:=decide (l.map Dw=m.map Dw)
def RB (l m:Bs):Prop:=∃a b:cR,(l=bv a∧m=bv b)∧(a.length=b.length→jK a∧jK b)
structure OpV where
 n:Int
 h:Int
 i:Int
 l:cR
deriving DecidableEq
def OpV.cells (o:OpV):List TV:= [.val (.int .i64 o.n), .val (.int .i64 o.h), .val (.int .u32 o.i), .vec 2 (bv o.l) .none]
def oI (o:OpV):Prop:=yG o.l∧0≤o.i∧o.i<4294967296
def jb (o:OpV):Bool:=decide (1≤o.n)&&(decide (o.n≤65535)&&((decide (o.h=0) || (decide (3≤o.h)&&decide (o.h≤65535)))&&(!decide (o.i=0)&&ld o.l)))
def RC (l:List TV) (ok:Bool):Prop:=∃o:OpV,l=o.cells∧oI o∧ok=jb o
structure FtV where
 c:Int
 s:Int
 d:List Int
deriving DecidableEq
def FtV.cells (f:FtV):List TV:= [.val (.int .i64 f.c), .val (.int .i64 f.s), .vec 1 (bV f.d) .none]
def jY (f:FtV):Bool:=decide (1≤f.c)&&(decide (f.c≤255)&&(decide (0≤f.s)&&(decide (f.s≤255)&&decide (f.d.length≤4075))))
def Fg (a b:Bs):Prop:=(IsB a∧a≠ [])∧IsB b∧a.length+b.length≤1000000
def RD (l:List TV) (ok:Bool):Prop:=∃f:FtV,l=f.cells∧byt f.d∧ok=jY f
def Fh (l m:List TV) (ok:Bool):Prop:=∃a b:OpV,(l=a.cells∧m=b.cells)∧(a.l.length=b.l.length→jK a.l∧jK b.l)∧ok=decide (a=b)
def Fi (l m:List TV) (ok:Bool):Prop:=∃a b:UpV,(l=a.cells∧m=b.cells)∧(iD a∧iD b)∧ok=decide (a=b)
def Fj (l m:List TV) (ok:Bool):Prop:=∃a b:FtV,(l=a.cells∧m=b.cells)∧(byt a.d∧byt b.d)∧ok=decide (a=b)
def LG:aV:=fun _ ys T K=>match ys with
 | [.vec 1 a _, .vec 1 b _]=>Kt a b∧K (.val (.bool (v9 a b))) T
 | _=>aN 84 default ys
def LH:aV:=fun _ ys T K=>match ys with
 | [.agg [.val (.int .i64 c), .vec 1 v _]]=>K (.val (.bool (lI c v))) T
 | _=>aN 84 default ys
def LI:aV:=fun _ ys T K=>match ys with
 | [.agg [.val (.int .i64 c), .vec 1 v _]]=>oH c v∧K (.vec 1 (ja c v) .none) T
 | _=>aN 84 default ys
def LJ:aV:=fun _ ys T K=>match ys with
 | [.vec 2 l _, .fn (.func 130) [] []]=>RA l∧K (.vec 1 (nG l) .none) T
 | _=>aN 84 default ys
def LK:aV:=fun _ ys T K=>match ys with
 | [.agg [.val (.int .i64 c), .vec 1 v _], .agg [.val (.int .i64 d), .vec 1 w _]]=>Ku v w∧K (.val (.bool (uu c v d w))) T
 | _=>aN 84 default ys
def RE:aV:=fun _ ys T K=>match ys with
 | [.vec 2 l _, .vec 2 m _, .fn (.func 104) [] []]=>RB l m∧K (.val (.bool (BK l m))) T
 | _=>aN 84 default ys
def LL (ok:Bool):aV:=fun _ ys T K=>match ys with
 | [.agg l]=>RC l ok∧K (.val (.bool ok)) T
 | _=>aN 84 default ys
def LM:aV:=fun _ ys T K=>match ys with
 | [.vec 1 [[.vec 1 a _], [.vec 1 b _]] _]=>Fg a b∧K (.vec 1 (a++b) .none) T
 | _=>aN 84 default ys
def LN (ok:Bool):aV:=fun _ ys T K=>match ys with
 | [.agg l]=>RD l ok∧K (.val (.bool ok)) T
 | _=>aN 84 default ys
def qq (R:List TV→List TV→Bool→Prop) (ok:Bool):aV:=fun _ ys T K=>match ys with
 | [.agg l, .agg m]=>R l m ok∧K (.val (.bool ok)) T
 | _=>aN 84 default ys
def wc (R:List TV→Bs→Prop) (v:Bs):aV:=fun _ ys T K=>match ys with
 | [.agg l]=>R l v∧K (.vec 1 v .none) T
 | _=>aN 84 default ys
def Dx:List Nat:= [2,3,26,27,28]
def tG (l:Bs) (n j:Int):List TV:= [.val (.bool false), .val (.int .i64 n), .vec 2 l .none, .val (.int .i64 l.length), .val (.int .i64 j)]
def BL (ag h i:Int) (l:Bs):VT:=⟨[.cells [.val (.int .i64 ag), .val (.int .i64 h), .val (.int .u32 i), .vec 2 l .none]], []⟩
def UV (ag h i:Int) (l:Bs) (ok:Bool) (tot:Nat) (K:KX):Prop:=∀(z:Nat) (n c:Int) (v:Bs),bif ok then K .normal (aR 48 Dx (tG l tot l.length)) (BL ag h i l) [] else K .ret (aR 48 Dx (tG l n z)) ⟨(BL ag h i l).objs++ [.cells [.val (.int .i64 c), .vec 1 v .none]], []⟩ []
def Uk (ag h i:Int) (l:Bs) (ok:Bool) (tot:Nat) (c0:Code):Nat→Option (b6 × Code):=cJ [(0,eU 48 Dx [] (tG l 0 0) (BL ag h i l) (UV ag h i l ok tot),c0)]
def HR:List Nat:= [1,5,8,9,10]
def Dy (B L:Bs) (j:Int):List TV:= [.fn (.func 130) [] [], .vec 1 B (.tail 0 B.length), .vec 2 L .none, .val (.int .i64 L.length), .val (.int .i64 j)]
def Ul (B L:Bs) (c0:Code):Nat→Option (b6 × Code):=cJ [(0,Et 21 HR [(5,1)] [8] (Dy [] L 0) ⟨[], [(0,1,true)]⟩ fun K=>K .normal (aR 21 HR (Dy B L L.length)) ⟨[], [(B.length,1,true)]⟩ [],c0)]
def Dz:List Nat:= [0,1,2,6,15,16,17]
def tH (l m:Bs) (j:Int):List TV:= [.vec 2 l .none, .vec 2 m .none, .fn (.func 104) [] [], .val (.bool false), .vec 2 l .none, .val (.int .i64 l.length), .val (.int .i64 j)]
def UW (l m:Bs) (ok:Bool) (K:KX):Prop:=(@Eq Nat l.length m.length)∧∀(z:Nat) (c d:Int) (v w:Bs),bif ok then K .normal (aR 32 Dz (tH l m l.length)) ⟨[], []⟩ [] else K .ret (aR 32 Dz (tH l m z)) ⟨[.cells [.val (.int .i64 c), .vec 1 v .none], .cells [.val (.int .i64 d), .vec 1 w .none]], []⟩ []
def Um (l m:Bs) (ok:Bool) (c0:Code):Nat→Option (b6 × Code):=cJ [(0,eU 32 Dz [] (tH l m 0) ⟨[], []⟩ (UW l m ok),c0)]
theorem Tr (a b:Bs) (s t:ByteArray) (Q:TV→Prop):au Tryz.prog ae br (bc [(6, .val (.string s),some fun T=>T),(8, .val (.string t),some fun T=>T)]) 300 aK 0 LA [.vec 1 a .none, .vec 1 b .none] ⟨[], []⟩ (fun x _=>Q x)=
 (ba Tryz.prog (fun _=> .none) 0 ⟨[], []⟩ (.convert 22 9 (.tmp 5)) [(5,(.vec 1 (a) .none))] (.val (.string (s))) ⟨[], []⟩∧
 (ba Tryz.prog (fun _=> .none) 0 ⟨[], []⟩ (.convert 22 9 (.tmp 7)) [(7,(.vec 1 (b) .none))] (.val (.string (t))) ⟨[], []⟩∧
 Q (.val (.bool (av BinOp.eql (aP (Value.string s) (Value.string t))))))):=by kernel_rfl
theorem Tt (c:Int) (v:Bs) (Q:TV→Prop):au Tryz.prog ae br (bc [(999998, .dead,none)]) 300 aK 0 HQ [.agg [.val (.int .i64 c), .vec 1 v .none]] ⟨[], []⟩ (fun x _=>Q x)=
 (bif decide (c≥(0:Int))
 then (bif decide (c≤(255:Int))
 then Q (.val (.bool (decide ((↑(List.length v):Int)≤(100:Int)))))
 else Q (.val (.bool false)))
 else Q (.val (.bool false))):=by kernel_rfl
theorem Tu (ag h i:Int) (l:Bs) (ok:Bool) (tot:Nat) (Q:TV→Prop):au Tryz.prog ae br (bc [(999998, .dead,none)]) 300 (Uk ag h i l ok tot (aH Tryz.prog pn 0)) 0 pn [.agg [.val (.int .i64 ag), .val (.int .i64 h), .val (.int .u32 i), .vec 2 l .none]] ⟨[], []⟩ (fun x _=>Q x)=
 (bif decide (ag<(1:Int))
 then Q (.val (.bool false))
 else (bif decide (ag>(65535:Int))
 then Q (.val (.bool false))
 else (bif av BinOp.eql (aP (Value.int IntKind.i64 h) (Value.int IntKind.i64 (0:Int)))
 then (bif av BinOp.eql (aP (Value.int IntKind.u32 i) (Value.int IntKind.u32 (0:Int)))
 then Q (.val (.bool false))
 else ((aH Tryz.prog pn (0:Nat)=aH Tryz.prog pn (0:Nat))∧
 (((@Eq (Option Nat) .none .none)∧
 ((@Eq (Nat) 0 0)∧
 ((@Eq (List Nat) [] [])∧
 (True  ∧
 ((@Eq (VT) ⟨[(.cells [(.val (.int .i64 (ag))),(.val (.int .i64 (h))),(.val (.int .u32 (i))),(.vec 2 (l) .none)])], []⟩ ⟨[(.cells [(.val (.int .i64 (ag))),(.val (.int .i64 (h))),(.val (.int .u32 (i))),(.vec 2 (l) .none)])], []⟩)∧
 ((@Eq (Bool) true true)∧
 (@Eq (List TV) [(.val (.bool false)),(.val (.int .i64 0)),(.vec 2 (l) .none),(.val (.int .i64 ((↑(List.length l):Int)))),(.val (.int .i64 0))] [(.val (.bool false)),(.val (.int .i64 0)),(.vec 2 (l) .none),(.val (.int .i64 ((↑(List.length l):Int)))),(.val (.int .i64 0))])))))))∧
 (∀z:Nat,(∀n:Int,(∀c:Int,(∀v:Bs,(bif ok
 then Q (.val (.bool (decide ((↑tot:Int)≤(200:Int)))))
 else Q (.val (.bool false))))))))))
 else (bif decide (h≥(3:Int))
 then (bif !decide (h≤(65535:Int))
 then Q (.val (.bool false))
 else (bif av BinOp.eql (aP (Value.int IntKind.u32 i) (Value.int IntKind.u32 (0:Int)))
 then Q (.val (.bool false))
 else ((aH Tryz.prog pn (0:Nat)=aH Tryz.prog pn (0:Nat))∧
 (((@Eq (Option Nat) .none .none)∧
 ((@Eq (Nat) 0 0)∧
 ((@Eq (List Nat) [] [])∧
 (True  ∧
 ((@Eq (VT) ⟨[(.cells [(.val (.int .i64 (ag))),(.val (.int .i64 (h))),(.val (.int .u32 (i))),(.vec 2 (l) .none)])], []⟩ ⟨[(.cells [(.val (.int .i64 (ag))),(.val (.int .i64 (h))),(.val (.int .u32 (i))),(.vec 2 (l) .none)])], []⟩)∧
 ((@Eq (Bool) true true)∧
 (@Eq (List TV) [(.val (.bool false)),(.val (.int .i64 0)),(.vec 2 (l) .none),(.val (.int .i64 ((↑(List.length l):Int)))),(.val (.int .i64 0))] [(.val (.bool false)),(.val (.int .i64 0)),(.vec 2 (l) .none),(.val (.int .i64 ((↑(List.length l):Int)))),(.val (.int .i64 0))])))))))∧
 (∀z:Nat,(∀n:Int,(∀c:Int,(∀v:Bs,(bif ok
 then Q (.val (.bool (decide ((↑tot:Int)≤(200:Int)))))
 else Q (.val (.bool false)))))))))))
 else Q (.val (.bool false)))))):=by kernel_rfl
theorem HT (ag h i:Int) (l v:Bs) (n c:Int) (j:Nat) (Q:Exit→List TV→VT→List Nat→Nat→Prop):vx Tryz.prog ae (aC [(HQ,LH)]) (bc [(999999, .dead,none),(30, .elt [.val (.int .i64 c), .vec 1 v .none],none)]) 300 aK none 0 (cI Tryz.prog pn 0) (aR 48 Dx (tG l n j)) (BL ag h i l) [] (dm Dx Q)=
 (bif decide ((↑j:Int)<(↑(List.length l):Int))
 then (bo Tryz.prog (fun _=> .none) (.indexAddr 55 (.tmp 26) (.tmp 28)) [(26,(.vec 2 (l) .none)),(28,(.val (.int .i64 ((↑j:Int)))))] (.elt [(.val (.int .i64 (c))),(.vec 1 (v) .none)])∧
 (bif !lI c v
 then Q .ret [(.val (.bool false)),(.val (.int .i64 (n))),(.vec 2 (l) .none),(.val (.int .i64 ((↑(List.length l):Int)))),(.val (.int .i64 ((↑j:Int))))] ⟨[(.cells [(.val (.int .i64 (ag))),(.val (.int .i64 (h))),(.val (.int .u32 (i))),(.vec 2 (l) .none)]),(.cells [(.val (.int .i64 (c))),(.vec 1 (v) .none)])], []⟩ [] 48
 else (bif decide (n>(200:Int))
 then Q .ret [(.val (.bool false)),(.val (.int .i64 (n))),(.vec 2 (l) .none),(.val (.int .i64 ((↑(List.length l):Int)))),(.val (.int .i64 ((↑j:Int))))] ⟨[(.cells [(.val (.int .i64 (ag))),(.val (.int .i64 (h))),(.val (.int .u32 (i))),(.vec 2 (l) .none)]),(.cells [(.val (.int .i64 (c))),(.vec 1 (v) .none)])], []⟩ [] 48
 else Q .normal [(.val (.bool false)),(.val (.int .i64 (IntKind.wrap IntKind.i64 (n+IntKind.wrap IntKind.i64 ((↑(List.length v):Int)+(2:Int)))))),(.vec 2 (l) .none),(.val (.int .i64 ((↑(List.length l):Int)))),(.val (.int .i64 (IntKind.wrap IntKind.i64 ((↑j:Int)+(1:Int)))))] ⟨[(.cells [(.val (.int .i64 (ag))),(.val (.int .i64 (h))),(.val (.int .u32 (i))),(.vec 2 (l) .none)]),(.cells [(.val (.int .i64 (c))),(.vec 1 (v) .none)])], []⟩ [] 48)))
 else Q (.exit 0) [(.val (.bool false)),(.val (.int .i64 (n))),(.vec 2 (l) .none),(.val (.int .i64 ((↑(List.length l):Int)))),(.val (.int .i64 ((↑j:Int))))] ⟨[(.cells [(.val (.int .i64 (ag))),(.val (.int .i64 (h))),(.val (.int .u32 (i))),(.vec 2 (l) .none)])], []⟩ [] 48):=by kernel_rfl
theorem Tv (c:Int) (v B:Bs) (e:Nat) (Q:TV→Prop):au Tryz.prog ae (aC [(lX,nE .i64 1)]) (bc [(999998, .dead,none),(12, .vec 1 B (.tail 1 e),some fun T=>{T with tails:= [(0,1,false),(e,1,false)]})]) 300 aK 0 BI [.agg [.val (.int .i64 c), .vec 1 v .none]] ⟨[], []⟩ (fun x _=>Q x)=
 ((@Eq (IntKind) .i64 .i64)∧
 (co (c) 1∧
 (((@Eq (Option TV) (.some (.vec 1 (v) .none)) (.some (.vec 1 (v) .none)))∧
 (True  ∧
 ((@Eq (Option TV) (.some (.vec 1 (v) .none)) (.some (.vec 1 (v) .none)))∧
 ((@Eq (Option TV) (.some (.val (.int .i64 (c)))) (.some (.val (.int .i64 (c)))))∧
 True))))∧
 ((@Eq (IntKind) .i64 .i64)∧
 ((co ((↑(List.length v):Int)) 1∧
 gH (ap (1:Int) c))∧
 (((@Eq (Option TV) (.some (.vec 1 (v) .none)) (.some (.vec 1 (v) .none)))∧
 (True  ∧
 ((@Eq (Option TV) (.some (.vec 1 (v) .none)) (.some (.vec 1 (v) .none)))∧
 ((@Eq (Option TV) (.some (.val (.int .i64 (c)))) (.some (.val (.int .i64 (c)))))∧
 True))))∧
 (ba Tryz.prog (fun _=> .none) 0 ⟨[(.cells [(.val (.int .i64 (c))),(.vec 1 (v) .none)])], [(0,(1,false)),(0,(1,false))]⟩ (.call ⟨(.builtin .append), #[(.tmp 9),(.tmp 11)], #[22,22]⟩) [(9,(.vec 1 (ap (1:Int) c++ap (1:Int) (↑(List.length v):Int)) (.tail 1 0))),(11,(.vec 1 (v) .none))] (.vec 1 (B) (.tail 1 (e))) ⟨[(.cells [(.val (.int .i64 (c))),(.vec 1 (v) .none)])], [(0,(1,false)),((e),(1,false))]⟩∧
 Q (.vec 1 (B) (.tail 1 (e)))))))))):=by kernel_rfl
theorem Tw (B L:Bs) (Q:TV→Prop):au Tryz.prog ae br aT 300 (Ul B L (aH Tryz.prog sa 0)) 0 sa [.vec 2 L .none, .fn (.func 130) [] []] ⟨[], []⟩ (fun x _=>Q x)=
 ((aH Tryz.prog sa (0:Nat)=aH Tryz.prog sa (0:Nat))∧
 (((@Eq (Option Nat) .none .none)∧
 ((@Eq (Nat) 0 0)∧
 ((@Eq (List Nat) [] [])∧
 (((@Eq (Option TV) (.some (.val (.slice .none 0 0))) (.some (.val (.slice .none 0 0))))∧
 True)∧
 ((@Eq (VT) ⟨[], [(0,(1,true))]⟩ ⟨[], [(0,(1,true))]⟩)∧
 ((@Eq (Bool) true true)∧
 (@Eq (List TV) [(.fn (.func 130) [] []),(.vec 1 [] (.tail 0 0)),(.vec 2 (L) .none),(.val (.int .i64 ((↑(List.length L):Int)))),(.val (.int .i64 0))] [(.fn (.func 130) [] []),(.vec 1 [] (.tail 0 0)),(.vec 2 (L) .none),(.val (.int .i64 ((↑(List.length L):Int)))),(.val (.int .i64 0))])))))))∧
 Q (.vec 1 (B) (.tail 0 (List.length B))))):=by kernel_rfl
theorem HU (B B2 L v:Bs) (c:Int) (j:Nat) (Q:Exit→List TV→VT→List Nat→Nat→Prop):vx Tryz.prog ae (aC [(BI,LI)]) (bc [(999999, .dead,none),(12, .elt [.val (.int .i64 c), .vec 1 v .none],none),(18, .vec 1 B2 (.tail 0 B2.length),some fun T=>{T with tails:= [(B2.length,1,true)]})]) 300 aK none 0 (cI Tryz.prog sa 0) (aR 21 HR (Dy B L j)) ⟨[], [(B.length,1,true)]⟩ [] (dm HR Q)=
 (bif decide ((↑j:Int)<(↑(List.length L):Int))
 then (bo Tryz.prog (fun _=> .none) (.indexAddr 55 (.tmp 8) (.tmp 10)) [(8,(.vec 2 (L) .none)),(10,(.val (.int .i64 ((↑j:Int)))))] (.elt [(.val (.int .i64 (c))),(.vec 1 (v) .none)])∧
 (oH (c) (v)∧
 (ba Tryz.prog (fun _=> .none) 0 ⟨[(.cells [(.val (.int .i64 (c))),(.vec 1 (v) .none)])], [((List.length B),(1,true))]⟩ (.call ⟨(.builtin .append), #[(.tmp 14),(.tmp 17)], #[22,22]⟩) [(14,(.vec 1 (B) (.tail 0 (List.length B)))),(17,(.vec 1 (ja c v) .none))] (.vec 1 (B2) (.tail 0 (List.length B2))) ⟨[(.cells [(.val (.int .i64 (c))),(.vec 1 (v) .none)])], [((List.length B2),(1,true))]⟩∧
 Q .normal [(.fn (.func 130) [] []),(.vec 1 (B2) (.tail 0 (List.length B2))),(.vec 2 (L) .none),(.val (.int .i64 ((↑(List.length L):Int)))),(.val (.int .i64 (IntKind.wrap IntKind.i64 ((↑j:Int)+(1:Int)))))] ⟨[(.cells [(.val (.int .i64 (c))),(.vec 1 (v) .none)])], [((List.length B2),(1,true))]⟩ [] 21)))
 else Q (.exit 0) [(.fn (.func 130) [] []),(.vec 1 (B) (.tail 0 (List.length B))),(.vec 2 (L) .none),(.val (.int .i64 ((↑(List.length L):Int)))),(.val (.int .i64 ((↑j:Int))))] ⟨[], [((List.length B),(1,true))]⟩ [] 21):=by kernel_rfl
theorem Tx (ag h i:Int) (l v:Bs) (e:Nat) (ok:Bool) (Q:TV→Prop):au Tryz.prog ae (aC [(pn,LL ok),(lX,nE .i64 1),(iC,jr .i64 2),(p9,jr .u32 4),(sa,LJ)]) (bc [(999998, .dead,none),(38, .vec 1 v (.tail 3 e),some fun T=>{T with tails:= [(0,1,false),(0,1,false),(0,1,false),(e,1,false)]})]) 300 aK 0 LB [.agg [.val (.int .i64 ag), .val (.int .i64 h), .val (.int .u32 i), .vec 2 l .none]] ⟨[], []⟩ (fun x _=>Q x)=
 (RC [(.val (.int .i64 (ag))),(.val (.int .i64 (h))),(.val (.int .u32 (i))),(.vec 2 (l) .none)] (ok)∧
 (bif !ok
 then Q (.val (.slice .none 0 0))
 else ((@Eq (IntKind) .i64 .i64)∧
 (co 4 1∧
 (((@Eq (Option TV) (.some (.val (.int .u32 (i)))) (.some (.val (.int .u32 (i)))))∧
 ((@Eq (Option TV) (.some (.val (.int .i64 (h)))) (.some (.val (.int .i64 (h)))))∧
 ((@Eq (Option TV) (.some (.val (.int .i64 (ag)))) (.some (.val (.int .i64 (ag)))))∧
 True)))∧
 ((@Eq (IntKind) .i64 .i64)∧
 ((co (ag) 2∧
 gH (ap (1:Int) (4:Int)))∧
 (((@Eq (Option TV) (.some (.val (.int .u32 (i)))) (.some (.val (.int .u32 (i)))))∧
 ((@Eq (Option TV) (.some (.val (.int .i64 (h)))) (.some (.val (.int .i64 (h)))))∧
 ((@Eq (Option TV) (.some (.val (.int .i64 (ag)))) (.some (.val (.int .i64 (ag)))))∧
 True)))∧
 ((@Eq (IntKind) .i64 .i64)∧
 ((co (h) 2∧
 gH (ap (1:Int) (4:Int)++ap (2:Int) ag))∧
 (((@Eq (Option TV) (.some (.val (.int .u32 (i)))) (.some (.val (.int .u32 (i)))))∧
 ((@Eq (Option TV) (.some (.val (.int .i64 (h)))) (.some (.val (.int .i64 (h)))))∧
 ((@Eq (Option TV) (.some (.val (.int .i64 (ag)))) (.some (.val (.int .i64 (ag)))))∧
 True)))∧
 ((@Eq (IntKind) .u32 .u32)∧
 ((co (i) 4∧
 gH (ap (1:Int) (4:Int)++ap (2:Int) ag++ap (2:Int) h))∧
 (bif av BinOp.eql (aP (Value.int IntKind.i64 (↑(List.length l):Int)) (Value.int IntKind.i64 (0:Int)))
 then ((@Eq (IntKind) .i64 .i64)∧
 ((co 0 1∧
 gH (ap (1:Int) (4:Int)++ap (2:Int) ag++ap (2:Int) h++ap (4:Int) i))∧
 Q (.vec 1 (ap (1:Int) (4:Int)++ap (2:Int) ag++ap (2:Int) h++ap (4:Int) i++ap (1:Int) (0:Int)) (.tail 1 0))))
 else (RA (l)∧
 ((@Eq (IntKind) .i64 .i64)∧
 ((co (IntKind.wrap IntKind.i64 ((↑(List.length (nG l)):Int)+(2:Int))) 1∧
 gH (ap (1:Int) (4:Int)++ap (2:Int) ag++ap (2:Int) h++ap (4:Int) i))∧
 ((@Eq (IntKind) .i64 .i64)∧
 ((co 2 1∧
 gH (ap (1:Int) (4:Int)++ap (2:Int) ag++ap (2:Int) h++ap (4:Int) i++ap (1:Int) (IntKind.wrap IntKind.i64 ((↑(List.length (nG l)):Int)+(2:Int)))))∧
 ((@Eq (IntKind) .i64 .i64)∧
 ((co ((↑(List.length (nG l)):Int)) 1∧
 gH (ap (1:Int) (4:Int)++ap (2:Int) ag++ap (2:Int) h++ap (4:Int) i++ap (1:Int) (IntKind.wrap IntKind.i64 ((↑(List.length (nG l)):Int)+(2:Int)))++ap (1:Int) (2:Int)))∧
 (ba Tryz.prog (fun _=> .none) 0 ⟨[(.cells [(.val (.int .i64 (ag))),(.val (.int .i64 (h))),(.val (.int .u32 (i))),(.vec 2 (l) .none)])], [(0,(1,false)),(0,(1,false)),(0,(1,false)),(0,(1,false))]⟩ (.call ⟨(.builtin .append), #[(.tmp 36),(.tmp 37)], #[22,22]⟩) [(36,(.vec 1 (ap (1:Int) (4:Int)++ap (2:Int) ag++ap (2:Int) h++ap (4:Int) i++ap (1:Int) (IntKind.wrap IntKind.i64 ((↑(List.length (nG l)):Int)+(2:Int)))++ap (1:Int) (2:Int)++ap (1:Int) (↑(List.length (nG l)):Int)) (.tail 3 0))),(37,(.vec 1 (nG l) .none))] (.vec 1 (v) (.tail 3 (e))) ⟨[(.cells [(.val (.int .i64 (ag))),(.val (.int .i64 (h))),(.val (.int .u32 (i))),(.vec 2 (l) .none)])], [(0,(1,false)),(0,(1,false)),(0,(1,false)),((e),(1,false))]⟩∧
 Q (.vec 1 (v) (.tail 3 (e))))))))))))))))))))))))):=by kernel_rfl
theorem Ty (c d:Int) (v w:Bs) (Q:TV→Prop):au Tryz.prog ae (aC [(LA,LG)]) (bc [(999998, .dead,none)]) 300 aK 0 BJ [.agg [.val (.int .i64 c), .vec 1 v .none], .agg [.val (.int .i64 d), .vec 1 w .none]] ⟨[], []⟩ (fun x _=>Q x)=
 (bif av BinOp.eql (aP (Value.int IntKind.i64 c) (Value.int IntKind.i64 d))
 then (Kt (v) (w)∧
 Q (.val (.bool (v9 v w))))
 else Q (.val (.bool false))):=by kernel_rfl
theorem Tz (l m:Bs) (ok:Bool) (Q:TV→Prop):au Tryz.prog ae br aT 300 (Um l m ok (aH Tryz.prog tF 0)) 0 tF [.vec 2 l .none, .vec 2 m .none, .fn (.func 104) [] []] ⟨[], []⟩ (fun x _=>Q x)=
 (bif av BinOp.neq (aP (Value.int IntKind.i64 (↑(List.length l):Int)) (Value.int IntKind.i64 (↑(List.length m):Int)))
 then Q (.val (.bool false))
 else ((aH Tryz.prog tF (0:Nat)=aH Tryz.prog tF (0:Nat))∧
 (((@Eq (Option Nat) .none .none)∧
 ((@Eq (Nat) 0 0)∧
 ((@Eq (List Nat) [] [])∧
 (True  ∧
 ((@Eq (VT) ⟨[], []⟩ ⟨[], []⟩)∧
 ((@Eq (Bool) true true)∧
 (@Eq (List TV) [(.vec 2 (l) .none),(.vec 2 (m) .none),(.fn (.func 104) [] []),(.val (.bool false)),(.vec 2 (l) .none),(.val (.int .i64 ((↑(List.length l):Int)))),(.val (.int .i64 0))] [(.vec 2 (l) .none),(.vec 2 (m) .none),(.fn (.func 104) [] []),(.val (.bool false)),(.vec 2 (l) .none),(.val (.int .i64 ((↑(List.length l):Int)))),(.val (.int .i64 0))])))))))∧
 ((@Eq (Nat) (List.length l) (List.length m))∧
 (∀z:Nat,(∀c:Int,(∀d:Int,(∀v:Bs,(∀w:Bs,(bif ok
 then Q (.val (.bool true))
 else Q (.val (.bool false)))))))))))):=by kernel_rfl
theorem HV (l m v w:Bs) (c d:Int) (j:Nat) (Q:Exit→List TV→VT→List Nat→Nat→Prop):vx Tryz.prog ae (aC [(BJ,LK)]) (bc [(999999, .dead,none),(20, .elt [.val (.int .i64 c), .vec 1 v .none],none),(24, .elt [.val (.int .i64 d), .vec 1 w .none],none)]) 300 aK none 0 (cI Tryz.prog tF 0) (aR 32 Dz (tH l m j)) ⟨[], []⟩ [] (dm Dz Q)=
 (bif decide ((↑j:Int)<(↑(List.length l):Int))
 then (bo Tryz.prog (fun _=> .none) (.indexAddr 55 (.tmp 15) (.tmp 17)) [(15,(.vec 2 (l) .none)),(17,(.val (.int .i64 ((↑j:Int)))))] (.elt [(.val (.int .i64 (c))),(.vec 1 (v) .none)])∧
 (bo Tryz.prog (fun _=> .none) (.indexAddr 55 (.tmp 22) (.tmp 23)) [(22,(.vec 2 (m) .none)),(23,(.val (.int .i64 ((↑j:Int)))))] (.elt [(.val (.int .i64 (d))),(.vec 1 (w) .none)])∧
 (Ku (v) (w)∧
 (bif !uu c v d w
 then Q .ret [(.vec 2 (l) .none),(.vec 2 (m) .none),(.fn (.func 104) [] []),(.val (.bool false)),(.vec 2 (l) .none),(.val (.int .i64 ((↑(List.length l):Int)))),(.val (.int .i64 ((↑j:Int))))] ⟨[(.cells [(.val (.int .i64 (c))),(.vec 1 (v) .none)]),(.cells [(.val (.int .i64 (d))),(.vec 1 (w) .none)])], []⟩ [] 32
 else Q .normal [(.vec 2 (l) .none),(.vec 2 (m) .none),(.fn (.func 104) [] []),(.val (.bool false)),(.vec 2 (l) .none),(.val (.int .i64 ((↑(List.length l):Int)))),(.val (.int .i64 (IntKind.wrap IntKind.i64 ((↑j:Int)+(1:Int)))))] ⟨[(.cells [(.val (.int .i64 (c))),(.vec 1 (v) .none)]),(.cells [(.val (.int .i64 (d))),(.vec 1 (w) .none)])], []⟩ [] 32))))
 else Q (.exit 0) [(.vec 2 (l) .none),(.vec 2 (m) .none),(.fn (.func 104) [] []),(.val (.bool false)),(.vec 2 (l) .none),(.val (.int .i64 ((↑(List.length l):Int)))),(.val (.int .i64 ((↑j:Int))))] ⟨[], []⟩ [] 32):=by kernel_rfl
theorem TA (ag h i as2 h2 i2:Int) (l m:Bs) (Q:TV→Prop):au Tryz.prog ae (aC [(tF,RE)]) (bc [(999998, .dead,none)]) 300 aK 0 LC [.agg [.val (.int .i64 ag), .val (.int .i64 h), .val (.int .u32 i), .vec 2 l .none], .agg [.val (.int .i64 as2), .val (.int .i64 h2), .val (.int .u32 i2), .vec 2 m .none]] ⟨[], []⟩ (fun x _=>Q x)=
 (bif av BinOp.eql (aP (Value.int IntKind.i64 ag) (Value.int IntKind.i64 as2))
 then (bif av BinOp.eql (aP (Value.int IntKind.i64 h) (Value.int IntKind.i64 h2))
 then (bif av BinOp.eql (aP (Value.int IntKind.u32 i) (Value.int IntKind.u32 i2))
 then (RB (l) (m)∧
 Q (.val (.bool (BK l m))))
 else Q (.val (.bool false)))
 else Q (.val (.bool false)))
 else Q (.val (.bool false))):=by kernel_rfl
theorem TB (c s:Int) (d:Bs) (Q:TV→Prop):au Tryz.prog ae br (bc [(999998, .dead,none)]) 300 aK 0 LD [cT c s d] ⟨[], []⟩ (fun x _=>Q x)=
 (bif decide (c≥(1:Int))
 then (bif decide (c≤(255:Int))
 then (bif decide (s≥(0:Int))
 then (bif decide (s≤(255:Int))
 then Q (.val (.bool (decide ((↑(List.length d):Int)≤(4075:Int)))))
 else Q (.val (.bool false)))
 else Q (.val (.bool false)))
 else Q (.val (.bool false)))
 else Q (.val (.bool false))):=by kernel_rfl
theorem TC (c s:Int) (d:Bs) (ok:Bool) (Q:TV→Prop):au Tryz.prog ae (aC [(LD,LN ok),(pm,LM)]) (bc [(999998, .dead,none)]) 300 aK 0 LE [cT c s d] ⟨[], []⟩ (fun x _=>Q x)=
 (RD [(.val (.int .i64 (c))),(.val (.int .i64 (s))),(.vec 1 (d) .none)] (ok)∧
 (bif !ok
 then Q (.val (.slice .none 0 0))
 else (Fg [[(.val (.int .u8 (IntKind.wrap IntKind.u8 c)))], [(.val (.int .u8 (IntKind.wrap IntKind.u8 s)))]] (d)∧
 Q (.vec 1 ([[(.val (.int .u8 (IntKind.wrap IntKind.u8 c)))], [(.val (.int .u8 (IntKind.wrap IntKind.u8 s)))]]++d) .none)))):=by kernel_rfl
theorem TD (c s c2 s2:Int) (d d2:Bs) (Q:TV→Prop):au Tryz.prog ae (aC [(LA,LG)]) (bc [(999998, .dead,none)]) 300 aK 0 LF [cT c s d,cT c2 s2 d2] ⟨[], []⟩ (fun x _=>Q x)=
 (bif av BinOp.eql (aP (Value.int IntKind.i64 c) (Value.int IntKind.i64 c2))
 then (bif av BinOp.eql (aP (Value.int IntKind.i64 s) (Value.int IntKind.i64 s2))
 then (Kt (d) (d2)∧
 Q (.val (.bool (v9 d d2))))
 else Q (.val (.bool false)))
 else Q (.val (.bool false))):=by kernel_rfl
theorem TE (m n:MsgS) (o1 o2 o3:Bool) (Q:TV→Prop):au Tryz.prog ae (aC [(LC,qq Fh o1),(Ln,qq Fi o2),(LF,qq Fj o3)]) (bc [(999998, .dead,none)]) 300 aK 0 yF [.agg m.cells, .agg n.cells] ⟨[], []⟩ (fun x _=>Q x)=
 (bif av BinOp.eql (aP (Value.int IntKind.i64 (MsgS.k m)) (Value.int IntKind.i64 (MsgS.k n)))
 then (Fh [(.val (.int .i64 (OpS.n (MsgS.op m)))),(.val (.int .i64 (OpS.h (MsgS.op m)))),(.val (.int .u32 (OpS.i (MsgS.op m)))),(.vec 2 (OpS.l (MsgS.op m)) .none)] [(.val (.int .i64 (OpS.n (MsgS.op n)))),(.val (.int .i64 (OpS.h (MsgS.op n)))),(.val (.int .u32 (OpS.i (MsgS.op n)))),(.vec 2 (OpS.l (MsgS.op n)) .none)] (o1)∧
 (bif o1
 then (Fi [(.vec 2 (UpS.w (MsgS.u m)) .none),(.val (.int .i64 (UpS.o (MsgS.u m)))),(.vec 1 (UpS.x (MsgS.u m)) .none),(.val (.int .u32 (UpS.h (MsgS.u m)))),(.val (.int .i64 (UpS.m (MsgS.u m)))),(.val (.bool (UpS.hm (MsgS.u m)))),(.vec 2 (UpS.n (MsgS.u m)) .none)] [(.vec 2 (UpS.w (MsgS.u n)) .none),(.val (.int .i64 (UpS.o (MsgS.u n)))),(.vec 1 (UpS.x (MsgS.u n)) .none),(.val (.int .u32 (UpS.h (MsgS.u n)))),(.val (.int .i64 (UpS.m (MsgS.u n)))),(.val (.bool (UpS.hm (MsgS.u n)))),(.vec 2 (UpS.n (MsgS.u n)) .none)] (o2)∧
 (bif o2
 then (Fj [(.val (.int .i64 (MsgS.c m))),(.val (.int .i64 (MsgS.s m))),(.vec 1 (MsgS.d m) .none)] [(.val (.int .i64 (MsgS.c n))),(.val (.int .i64 (MsgS.s n))),(.vec 1 (MsgS.d n) .none)] (o3)∧
 Q (.val (.bool (o3))))
 else Q (.val (.bool false))))
 else Q (.val (.bool false))))
 else Q (.val (.bool false))):=by kernel_rfl
end
section
open Go.RowKit

end
section
open Go.RowKit

theorem NU {d:Bs} (hd:IsB d) (T:VT):fV Tryz.prog T 22 9 (.vec 1 d .none)=some (.val (.string (pZ d))):=by
 obtain ⟨⟨l,rfl,_⟩,_⟩:=hd
 have hr:bQ T 1 (.vec 1 (bV l) .none)=some (bV l):=by simp [bQ]
 simp only [fV,Tryz.underlying22,Tryz.underlying9,Tryz.underlying5,hr,mm,Option.map_some,pZ,Option.getD_some]
theorem wd {ro:Nat} {T:VT} {a:Operand} {l:List (Nat × TV)} {d:Bs} (hd:IsB d) (ha:aS ae l a= .vec 1 d .none):ba Tryz.prog ae ro T (.convert 22 9 a) l (.val (.string (pZ d))) T:=by
 refine .mk ?_
 have h1:bm Tryz.prog (.convert 22 9 a) (aS ae l)=none:=by simp [bm,dI,ha,df]
 have h2:bh Tryz.prog T (.convert 22 9 a) (aS ae l)=some (.val (.string (pZ d))):=by simp only [bh,ha,NU hd]
 simp only [fX,h1,h2]
theorem nH {x i:Operand} {l:List (Nat × TV)} {es:Bs} {tok:Tok} {k:IntKind} {z:Int} {cs:List TV} (hx:aS ae l x= .vec 2 es tok) (hz:aS ae l i= .val (.int k z)) (h0:0≤z) (he:es[z.toNat]?=some cs):bo Tryz.prog ae (.indexAddr 55 x i) l (.elt cs):=by
 obtain ⟨inf,i1,i2,i3,i4⟩:=AP
 exact gO (inf:=inf) Tryz.underlying55 i1 (by rw [i2];exact hx) hz h0 he
end
section
open Go.RowKit

theorem om (l:List Int):bZ (bV l)=l:=by
 unfold bZ bV
 rw [List.map_map]
 exact (List.map_congr_left fun z _=>rfl).trans (List.map_id l)
theorem byt.is {l:List Int} (h:byt l):IsB (bV l):=⟨⟨l,rfl,h.1⟩,by simpa [bV] using h.2⟩
theorem NV {l m:List Int} (hl:∀z∈l,0≤z∧z<256) (hm:∀z∈m,0≤z∧z<256):pZ (bV l)=pZ (bV m) ↔ l=m:=by
 refine ⟨fun h=> ?_,fun h=>by rw [h]⟩
 unfold pZ at h
 rw [mm,mm] at h
 simp only [Option.getD_some,uO,ByteArray.mk.injEq] at h
 have h2:(l.map fun n=>UInt8.ofNat n.toNat)=m.map fun n=>UInt8.ofNat n.toNat:=by simpa using congrArg Array.toList h
 have inj:∀x y:Int,(0≤x∧x<256)→(0≤y∧y<256)→UInt8.ofNat x.toNat=UInt8.ofNat y.toNat→x=y:=fun x y hx hy h=>by
  have:=congrArg UInt8.toNat h
  simp only [UInt8.toNat_ofNat'] at this
  omega
 clear h
 induction l generalizing m with
 | nil=>cases m with
  | nil=>rfl
  | cons y m=>simp at h2
 | cons x l ih=>cases m with
  | nil=>simp at h2
  | cons y m=>
   simp only [List.map_cons,List.cons.injEq] at h2
   rw [inj x y (hl x List.mem_cons_self) (hm y List.mem_cons_self) h2.1,ih (fun z hz=>hl z (List.mem_cons_of_mem _ hz)) (fun z hz=>hm z (List.mem_cons_of_mem _ hz)) h2.2]
theorem TF (s t:ByteArray):av BinOp.eql (aP (.string s) (.string t))=decide (s=t):=by
 have h:=Ow (c:= .str) (x:= .string s) (y:= .string t) rfl rfl
 simp only [Value.string.injEq] at h
 show ci (.string s) (.string t)=_
 cases hc:ci (.string s) (.string t)
 ·rw [hc] at h;exact (decide_eq_false fun e=>by simpa using h.2 e).symm
 ·exact (decide_eq_true (h.1 hc)).symm
theorem HW:∀ro ys T K,LG ro ys T K→VCx Tryz.prog ae ro LA ys T K:=by
 intro ro ys T K hw
 unfold LG at hw
 split at hw
 ·rename_i a tok b tok2
  obtain ⟨⟨ha,hb⟩,hk⟩:=hw
  have hr:=ha.ren
  have hr2:=hb.ren
  refine VCx.loosePure (xs:= [.vec 1 a .none, .vec 1 b .none]) (y:= .val (.bool (v9 a b))) aq ?_ (by simp [bG]) (by simp only [ar,TV.ren,hr,hr2,Tok.ren]) (fun _ _=>rfl) hk
  refine VCx.keepV (Q:=fun x=>x= .val (.bool (v9 a b))) (ai ac aa an ah (Tr a b (pZ a) (pZ b) _) ⟨wd ha rfl,wd hb rfl, ?_⟩)
  obtain ⟨⟨l,rfl,hl⟩,_⟩:=ha
  obtain ⟨⟨m,rfl,hm⟩,_⟩:=hb
  rw [TF]
  unfold v9
  rw [om,om,decide_eq_decide.2 (NV hl hm)]
  rfl
 ·exact hw.elim
theorem RF (c:Int) (v:Bs) (tok:Tok):VCx Tryz.prog ae 0 HQ [.agg [.val (.int .i64 c), .vec 1 v tok]] ⟨[], []⟩ fun x T' =>x= .val (.bool (lI c v))∧T' =⟨[], []⟩:=by
  refine VCx.argsLe (xs:= [.agg [.val (.int .i64 c), .vec 1 v .none]]) ⟨.agg ⟨.refl _, .vec _ _ _,trivial⟩,trivial⟩ ?_
  refine VCx.keepV (Q:=fun x=>x= .val (.bool (lI c v))) (ai ac aa an ah (Tt c v _) ?_)
  refine am (fun c1=>am (fun c2=> ?_) (fun c2=> ?_)) (fun c1=> ?_)<;>unfold lI
  · rw [show decide (0≤c)=true from c1,c2]
    simp only [Bool.true_and]
    rw [show decide (((v.length:Nat):Int)≤100)=decide (v.length≤100) from decide_eq_decide.2 (by omega)]
    rfl
  · rw [c2,Bool.false_and,Bool.and_false];rfl
  · rw [show decide (0≤c)=false from c1];rfl
theorem RG:∀ro ys T K,LH ro ys T K→VCx Tryz.prog ae ro HQ ys T K:=by
 intro ro ys T K hw
 unfold LH at hw
 split at hw
 ·rename_i c v tok
  have e:lI c (bg (bb []) (bb []) v)=lI c v:=by unfold lI;rw [cq,List.length_map]
  rw [←e] at hw
  exact VCx.liftPure aq (RF c _ _) rfl (fun _ _=>rfl) hw
 ·exact hw.elim
theorem cG (l:cR):(bv l).length=l.length:=List.length_map _
theorem iQ {l:cR} (f g:Nat→Option Nat):bg f g (bv l)=bv l:=by
 induction l with
 | nil=>rfl
 | cons c l ih=>simp only [bv,List.map_cons,bg,wb,ar,TV.ren,mY,Tok.ren] at ih ⊢;rw [ih]
theorem lf (l:cR):(bv l).map Dw=l:=by
 unfold bv
 rw [List.map_map]
 exact (List.map_congr_left fun c _=>by show (c.1,bZ (bV c.2))=c;rw [om]).trans (List.map_id l)
theorem yH:∀(l:cR) {j:Nat} (h:j<l.length),bN (l.take (j+1))=bN (l.take j)+(l[j].2.length+2)
 | [],j,h=>by simp at h
 | c::l,0,_=>by simp [bN]
 | c::l,j+1,h=>by
  have:=yH l (j:=j) (by simpa using h)
  simp only [List.take_succ_cons,bN,List.getElem_cons_succ] at this ⊢
  omega
theorem sW:∀(l:cR) (j:Nat),bN (l.take j)≤bN l
 | [],j=>by simp
 | c::l,0=>by simp [bN]
 | c::l,j+1=>by have:=sW l j;simp only [List.take_succ_cons,bN];omega
def lu (l:cR):Bool:=decide (∀j,(h:j<l.length)→lI l[j].1 (bV l[j].2)=true∧bN (l.take j)≤200)
theorem NW (ag h i:Int) {l:cR} (hl:yG l):dD Tryz.prog ae (Uk ag h i (bv l) (lu l) (bN l) (aH Tryz.prog pn 0)):=bL fun p hp=>by
  obtain rfl:=List.mem_singleton.1 hp
  have hS:aZ Tryz.prog ae (aC [(HQ,LH)]):=aJ fun p hp=>by obtain rfl:=List.mem_singleton.1 hp;exact RG
  refine cA fun K hK=> ?_
  refine dS (f:=pn) (id:=0) (by kernel_rfl) 48 Dx (fun j:Nat=>l.length-j) (fun j:Nat=>tG (bv l) (bN (l.take j)) j) (fun _=>BL ag h i (bv l)) (fun j=>j≤l.length∧∀k,(hk:k<l.length)→k<j→lI l[k].1 (bV l[k].2)=true∧bN (l.take k)≤200) 1 0 (fun _ _=>⟨Nat.le_refl _,Nat.le_refl _⟩)
    (fun e vs T=>(e= .normal∧lu l=true∧vs=tG (bv l) (bN l) (bv l).length∧T=BL ag h i (bv l))∨(e= .ret∧lu l=false∧∃(z:Nat) (n c:Int) (v:Bs),vs=tG (bv l) n z∧T=⟨(BL ag h i (bv l)).objs++ [.cells [.val (.int .i64 c), .vec 1 v .none]], []⟩)) (fun j hj=> ?_) 0 ⟨Nat.zero_le _,fun k _ hk=>absurd hk (Nat.not_lt_zero k)⟩ K ?_
  · obtain ⟨hj,hall⟩:=hj
    by_cases hlt:j<l.length
    · have hat:(bv l)[((j:Nat):Int).toNat]?=some (wb l[j]):=by rw [Int.toNat_natCast];show (l.map _)[j]?=_;rw [List.getElem?_map,List.getElem?_eq_getElem hlt];rfl
      have hbl:(bV l[j].2).length=l[j].2.length:=by simp [bV]
      refine b7 ac aa hS ah (HT ag h i (bv l) (bV l[j].2) (bN (l.take j)) l[j].1 j _) ?_
      refine aQ (decide_eq_true (by rw [cG];omega)) ⟨nH rfl rfl (by omega) hat, ?_⟩
      have bad:¬(lI l[j].1 (bV l[j].2)=true∧bN (l.take j)≤200)→lu l=false:=fun h=>decide_eq_false fun c=>h (c j hlt)
      cases hg:lI l[j].1 (bV l[j].2)
      · exact aQ rfl ⟨rfl,rfl, .inr ⟨rfl,bad (fun c=>by rw [hg] at c;cases c.1),j,_,l[j].1,bV l[j].2,rfl,rfl⟩⟩
      · refine aM rfl (am (fun c2=> ?_) (fun c2=> ?_))
        · have:=of_decide_eq_true c2
          exact ⟨rfl,rfl, .inr ⟨rfl,bad (fun c=>by omega),j,_,l[j].1,bV l[j].2,rfl,rfl⟩⟩
        · have c2:=of_decide_eq_false c2
          have hb:l[j].2.length≤100:=by unfold lI at hg;simp only [Bool.and_eq_true,decide_eq_true_eq] at hg;have:=hg.2.2;rwa [hbl] at this
          refine ⟨rfl,rfl,j+1,⟨hlt,fun k hk hkj=> ?_⟩,by show l.length-(j+1)<l.length-j;omega, .inr ⟨by simp only [VT.keep,List.take_succ_cons,List.take_zero,List.map_cons,List.map_nil,VO.ren,ar,TV.ren,iQ,Tok.ren];rfl, ?_⟩⟩
          · by_cases hkk:k=j
            · subst hkk;exact ⟨hg,by omega⟩
            · exact hall k hk (by omega)
          · rw [hbl,bP (z:=((l[j].2.length:Nat):Int)+2) (by omega) (by omega),bP (by omega) (by omega),kz hlt hl.2]
            show ar _ _ _=tG (bv l) (bN (l.take (j+1))) (j+1:Nat)
            rw [yH l hlt]
            simp only [ar,TV.ren,iQ,Tok.ren,tG]
            rw [show ((bN (l.take j):Nat):Int)+(((l[j].2.length:Nat):Int)+2)=((bN (l.take j)+(l[j].2.length+2):Nat):Int) by omega]
    · have hj2:j=l.length:=by omega
      subst hj2
      have hgo:lu l=true:=decide_eq_true fun k hk=>hall k hk hk
      refine b7 ac aa hS ah (HT ag h i (bv l) [] (bN (l.take l.length)) 0 l.length _) ?_
      exact aM (decide_eq_false (by rw [cG];omega)) ⟨rfl,rfl, .inl ⟨rfl,hgo,by rw [List.take_length];simp only [tG,cG],rfl⟩⟩
  · rintro e vs T (⟨rfl,h1,rfl,rfl⟩ | ⟨rfl,h1,z,n,c,v,rfl,rfl⟩)
    · have:=hK 0 0 0 [];rw [h1] at this;exact this
    · have:=hK z n c v;rw [h1] at this;exact this
theorem Kv (l:cR):(lu l&&decide (bN l≤200))=ld l:=by
 unfold ld
 cases hd:decide (bN l≤200)
 ·rw [Bool.and_false,Bool.and_false]
 ·have hd:=of_decide_eq_true hd
  rw [Bool.and_true,Bool.and_true]
  unfold lu
  cases ha:l.all fun c=>lI c.1 (bV c.2)
  ·refine decide_eq_false fun h=> ?_
   have:(l.all fun c=>lI c.1 (bV c.2))=true:=List.all_eq_true.2 fun c hc=>by
    obtain ⟨k,hk,rfl⟩:=List.mem_iff_getElem.1 hc
    exact (h k hk).1
   rw [ha] at this;cases this
  ·exact decide_eq_true fun k hk=>⟨List.all_eq_true.1 ha _ (List.getElem_mem hk),Nat.le_trans (sW l k) hd⟩
end
section
open Go.RowKit

theorem OpV.ren (o:OpV) (f g:Nat→Option Nat):ar f g o.cells=o.cells:=by
 simp only [OpV.cells,ar,TV.ren,iQ,Tok.ren]
theorem FtV.ren (o:FtV) (f g:Nat→Option Nat):ar f g o.cells=o.cells:=by
 simp only [FtV.cells,ar,TV.ren,mY,Tok.ren]
theorem RH {o:OpV} (ho:oI o):VCx Tryz.prog ae 0 pn [.agg o.cells] ⟨[], []⟩ fun x T' =>x= .val (.bool (jb o))∧T' =⟨[], []⟩:=by
 obtain ⟨hl,_⟩:=ho
 refine VCx.keepV (Q:=fun x=>x= .val (.bool (jb o))) (ai ac aa an (NW o.n o.h o.i hl) (Tu o.n o.h o.i (bv o.l) (lu o.l) (bN o.l) _) ?_)
 have fin:∀q:Bool,jb o=q→(TV.val (.bool q)).ren (aw 0) (aw 0)= .val (.bool (jb o)):=fun q h=>by rw [h];rfl
 have go:∀{G:Bool},jb o=(G&&ld o.l)→G=true→∀(_:Nat) (_ _:Int) (_:Bs),bif lu o.l then (TV.val (.bool (decide (((bN o.l:Nat):Int)≤200)))).ren (aw 0) (aw 0)= .val (.bool (jb o)) else (TV.val (.bool false)).ren (aw 0) (aw 0)= .val (.bool (jb o)):=by
  intro G h1 h2 _ _ _ _
  rw [h2,Bool.true_and,←Kv] at h1
  have e:decide (((bN o.l:Nat):Int)≤200)=decide (bN o.l≤200):=decide_eq_decide.2 (by omega)
  rw [e]
  cases hg:lu o.l<;>rw [hg] at h1
  ·exact fin _ h1
  ·exact fin _ h1
 have un:jb o=(decide (1≤o.n)&&(decide (o.n≤65535)&&((decide (o.h=0) || (decide (3≤o.h)&&decide (o.h≤65535)))&&(!decide (o.i=0)&&ld o.l)))):=rfl
 rw [ec,ec]
 refine am (fun c1=>fin _ ?_) (fun c1=>am (fun c2=>fin _ ?_) (fun c2=> ?_))
 ·have:=of_decide_eq_true c1
  rw [un,decide_eq_false (show ¬1≤o.n by omega)];rfl
 ·have:=of_decide_eq_true c2
  rw [un,decide_eq_false (show ¬o.n≤65535 by omega),Bool.false_and,Bool.and_false]
 have n1:decide (1≤o.n)=true:=decide_eq_true (by have:=of_decide_eq_false c1;omega)
 have n2:decide (o.n≤65535)=true:=decide_eq_true (by have:=of_decide_eq_false c2;omega)
 rw [n1,n2,Bool.true_and,Bool.true_and] at un
 refine am (fun c3=> ?_) (fun c3=>am (fun c4=> ?_) (fun c4=>fin _ ?_))
 ·rw [c3,Bool.true_or,Bool.true_and] at un
  refine am (fun c5=>fin _ ?_) (fun c5=>⟨rfl,⟨rfl,rfl,rfl,trivial,rfl,rfl,rfl⟩,go (G:= !decide (o.i=0)) un ?_⟩)
  ·rw [un,c5];rfl
  ·rw [c5];rfl
 ·cases c6:decide (o.h≤65535)
  ·refine aQ rfl (fin _ ?_)
   rw [un,c3,c6,Bool.and_false,Bool.or_false,Bool.false_and]
  ·refine aM rfl ?_
   rw [c6,show decide (3≤o.h)=true from c4,Bool.true_and,Bool.or_true,Bool.true_and] at un
   refine am (fun c5=>fin _ ?_) (fun c5=>⟨rfl,⟨rfl,rfl,rfl,trivial,rfl,rfl,rfl⟩,go (G:= !decide (o.i=0)) un ?_⟩)
   ·rw [un,c5];rfl
   ·rw [c5];rfl
 ·rw [un,c3,show decide (3≤o.h)=false from c4];rfl
theorem RI (ok:Bool):∀ro ys T K,LL ok ro ys T K→VCx Tryz.prog ae ro pn ys T K:=by
 intro ro ys T K hw
 unfold LL at hw
 split at hw
 ·obtain ⟨⟨o,rfl,ho,rfl⟩,hk⟩:=hw
  exact VCx.liftPure aq (RH ho) (by simp only [ar,TV.ren,o.ren]) (fun _ _=>rfl) hk
 ·exact hw.elim
theorem sb {c:Int} {v:Bs} (h:oH c v):IsB (ja c v)∧(ja c v).length=2+v.length:=by
 have e:(ja c v).length=2+v.length:=by
  show (ap 1 c++ap 1 v.length++v).length=_
  rw [List.length_append,List.length_append,aX,aX];rfl
 exact ⟨IsB.append (IsB.append (cM _ (by decide)) (cM _ (by decide)) (by rw [List.length_append,aX,aX];decide)) h.2.1 (by show (ja c v).length≤_;rw [e];have:=h.2.2;omega),e⟩
theorem RJ {c:Int} {v:Bs} (h:oH c v):VCx Tryz.prog ae 0 BI [.agg [.val (.int .i64 c), .vec 1 v .none]] ⟨[], []⟩ fun x T' =>x= .vec 1 (ja c v) .none∧T' =⟨[], []⟩:=by
 have hB:=sb h
 have hl1:=aX (k:=1) c
 have hl2:=aX (k:=1) (v.length:Int)
 refine VCx.toLe (Q:=fun T' =>T' =⟨[], []⟩) (VCx.keepV (Q:=fun x=>TVle x (.vec 1 (ja c v) .none)) (ai ac aa (aJ fun p hp=>by obtain rfl:=List.mem_singleton.1 hp;exact BF) ah (Tv c v (ja c v) (0+v.length) _) ⟨rfl,⟨⟨h.1.1,by have:=h.1.2;omega⟩,by decide,by decide⟩,⟨rfl,trivial,rfl,rfl,trivial⟩,rfl,⟨⟨⟨by omega,by have:=h.2.2;omega⟩,by decide,by decide⟩,cM _ (by decide),rY (by rw [hl1];decide)⟩,⟨rfl,trivial,rfl,rfl,trivial⟩, ?_, ?_⟩))
 ·exact iO (ro:=0) (T:=⟨[.cells [.val (.int .i64 c), .vec 1 v .none]], [(0,1,false),(0,1,false)]⟩) (T1:=⟨[.cells [.val (.int .i64 c), .vec 1 v .none]], [(0,1,false),(0,1,false)]⟩) (s:= .tmp 9) (x:= .tmp 11) (l:= [(9, .vec 1 (ap 1 c++ap 1 v.length) (.tail 1 0)),(11, .vec 1 v .none)]) (es:=ap 1 c++ap 1 v.length) (es2:=v) (k:=1) (n:=0) (bn:=false) rfl rfl (by rw [List.length_append,hl1,hl2];have:=h.2.2;omega)
 ·simp only [TV.ren,hB.1.ren]
  exact .vec 1 _ _
theorem RK:∀ro ys T K,LI ro ys T K→VCx Tryz.prog ae ro BI ys T K:=by
 intro ro ys T K hw
 unfold LI at hw
 split at hw
 ·rename_i c v tok
  obtain ⟨h,hk⟩:=hw
  refine VCx.argsLe (xs:= [.agg [.val (.int .i64 c), .vec 1 v .none]]) ⟨.agg ⟨.refl _, .vec _ _ _,trivial⟩,trivial⟩ ?_
  exact VCx.liftPure aq (RJ h) (by simp only [ar,TV.ren,h.2.1.ren,Tok.ren]) (fun f g=>by simp only [TV.ren,(sb h).1.ren,Tok.ren]) hk
 ·exact hw.elim
theorem jL:∀l:cR,(cf l).length=bN l
 | []=>rfl
 | c::l=>by
  have:=jL l
  have e:(ja c.1 (bV c.2)).length=2+c.2.length:=by
   show (ap 1 c.1++ap 1 (bV c.2).length++bV c.2).length=_
   rw [List.length_append,List.length_append,aX,aX];simp [bV]
  simp only [cf,List.flatMap_cons,List.length_append,bN] at this ⊢
  omega
theorem iR {l:cR} (hw:yG l) (hg:ld l=true):(∀c∈l,oH c.1 (bV c.2))∧bN l≤200:=by
 unfold ld at hg
 simp only [Bool.and_eq_true,decide_eq_true_eq] at hg
 refine ⟨fun c hc=> ?_,hg.2⟩
 have h:=List.all_eq_true.1 hg.1 c hc
 unfold lI at h
 simp only [Bool.and_eq_true,decide_eq_true_eq] at h
 exact ⟨⟨h.1,h.2.1⟩,⟨⟨c.2,rfl,hw.1 c hc⟩,Nat.le_trans h.2.2 (by decide)⟩,h.2.2⟩
theorem po:∀{l:cR},(∀c∈l,oH c.1 (bV c.2))→bN l≤200→IsB (cf l)
 | [],_,_=> .nil
 | c::l,h,hn=>by
  have h1:=po (l:=l) (fun d hd=>h d (List.mem_cons_of_mem _ hd)) (by simp only [bN] at hn;omega)
  have h2:=sb (h c List.mem_cons_self)
  refine IsB.append (b:=cf l) h2.1 h1 ?_
  have:=jL (c::l)
  show (cf (c::l)).length≤_
  omega
theorem HX {l:cR} {j:Nat} (h:j<l.length):cf (l.take (j+1))=cf (l.take j)++ja l[j].1 (bV l[j].2):=by
 unfold cf
 rw [List.take_add_one,List.getElem?_eq_getElem h,List.flatMap_append]
 simp
theorem NX {l:cR} (hw:yG l) (hg:ld l=true):dD Tryz.prog ae (Ul (cf l) (bv l) (aH Tryz.prog sa 0)):=bL fun p hp=>by
  obtain rfl:=List.mem_singleton.1 hp
  have hS:aZ Tryz.prog ae (aC [(BI,LI)]):=aJ fun p hp=>by obtain rfl:=List.mem_singleton.1 hp;exact RK
  obtain ⟨hd,hn⟩:=iR hw hg
  have htk:∀j,IsB (cf (l.take j)):=fun j=>po (fun c hc=>hd c (List.mem_of_mem_take hc)) (Nat.le_trans (sW l j) hn)
  have hlen:∀j,(cf (l.take j)).length≤200:=fun j=>by rw [jL];exact Nat.le_trans (sW l j) hn
  refine Am fun K hK=> ?_
  refine dS (f:=sa) (id:=0) (by kernel_rfl) 21 HR (fun j:Nat=>l.length-j) (fun j:Nat=>Dy (cf (l.take j)) (bv l) j) (fun j=>⟨[], [((cf (l.take j)).length,1,true)]⟩) (fun j=>j≤l.length) 0 1 (fun _ _=>⟨Nat.le_refl _,Nat.le_refl _⟩)
    (fun e vs T=>e= .normal∧vs=Dy (cf l) (bv l) (bv l).length∧T=⟨[], [((cf l).length,1,true)]⟩) (fun j hj=> ?_) 0 (Nat.zero_le _) K ?_
  · by_cases hlt:j<l.length
    · have hat:(bv l)[((j:Nat):Int).toNat]?=some (wb l[j]):=by rw [Int.toNat_natCast];show (l.map _)[j]?=_;rw [List.getElem?_map,List.getElem?_eq_getElem hlt];rfl
      have hp:=hd _ (List.getElem_mem hlt)
      have h1:=hlen j
      have h2:=(sb hp).2
      have ht:=xj [.cells (wb l[j])] (cf (l.take j)) (ja l[j].1 (bV l[j].2)) (by have:=hp.2.2;omega) 14 17 rfl
      rw [←HX hlt] at ht
      refine b7 ac aa hS ah (HU (cf (l.take j)) (cf (l.take (j+1))) (bv l) (bV l[j].2) l[j].1 j _) ?_
      refine aQ (decide_eq_true (by rw [cG];omega)) ⟨nH rfl rfl (by omega) hat,hp,ht,rfl,rfl,j+1,hlt,by show l.length-(j+1)<l.length-j;omega, .inr ⟨rfl, ?_⟩⟩
      simp only [ar,TV.ren,iQ,(htk (j+1)).ren,Tok.ren]
      rw [kz hlt hw.2]
      rfl
    · have hj2:j=l.length:=by omega
      refine b7 ac aa hS ah (HU (cf (l.take j)) [] (bv l) [] 0 j _) ?_
      subst hj2
      exact aM (decide_eq_false (by rw [cG];omega)) ⟨rfl,rfl,rfl,by simp only [Dy,cG,List.take_length],by rw [List.take_length]⟩
  · rintro e vs T ⟨rfl,rfl,rfl⟩
    exact hK
theorem RL {l:cR} (hw:yG l) (hg:ld l=true):VCx Tryz.prog ae 0 sa [.vec 2 (bv l) .none, .fn (.func BI) [] []] ⟨[], []⟩ fun x T' =>x= .vec 1 (cf l) .none∧T' =⟨[], []⟩:=by
 have hi:=po (iR hw hg).1 (iR hw hg).2
 refine VCx.toLe (Q:=fun T' =>T' =⟨[], []⟩) (VCx.keepV (Q:=fun x=>TVle x (.vec 1 (cf l) .none)) (ai ac aa an (NX hw hg) (Tw (cf l) (bv l) _) ⟨rfl,⟨rfl,rfl,rfl,⟨rfl,trivial⟩,rfl,rfl,rfl⟩, ?_⟩))
 simp only [TV.ren,hi.ren]
 exact .vec 1 _ _
theorem RM:∀ro ys T K,LJ ro ys T K→VCx Tryz.prog ae ro sa ys T K:=by
 intro ro ys T K hw
 unfold LJ at hw
 split at hw
 ·rename_i l tok
  obtain ⟨⟨c,rfl,h1,h2⟩,hk⟩:=hw
  have hi:=po (iR h1 h2).1 (iR h1 h2).2
  unfold nG at hk
  rw [lf] at hk
  refine VCx.argsLe (xs:= [.vec 2 (bv c) .none, .fn (.func BI) [] []]) ⟨.vec _ _ _, .refl _,trivial⟩ ?_
  exact VCx.liftPure aq (RL h1 h2) (by simp only [ar,TV.ren,iQ,Tok.ren]) (fun f g=>by simp only [TV.ren,hi.ren,Tok.ren]) hk
 ·exact hw.elim
end
section
open Go.RowKit

def PwM (m:Nat) (b:Bs):Prop:=IsB b∧b≠ []∧b.length≤m
theorem PwM.v {m:Nat} {b:Bs} (h:PwM m b):gH b:=⟨h.1,h.2.1⟩
theorem PwM.zero {k n:Int} (h0:0<k) (hk:k≤8):PwM 8 (ap k n):=⟨cM n hk,rY (by rw [aX];omega),by rw [aX];omega⟩
theorem PwM.step {m:Nat} {b:Bs} {k n:Int} (h:PwM m b) (hk:k≤8) (hm:m≤900000):PwM (m+8) (b++ap k n):=by
 have hl:(b++ap k n).length≤m+8:=by rw [List.length_append,aX];have:=h.2.2;omega
 exact ⟨IsB.append h.1 (cM n hk) (by omega),by simp [h.2.1],hl⟩
theorem PwM.app {m q:Nat} {b c:Bs} (h:PwM m b) (hc:IsB c) (hl:c.length≤q) (hm:m+q≤1000000):PwM (m+q) (b++c):=by
 have hl:(b++c).length≤m+q:=by rw [List.length_append];have:=h.2.2;omega
 exact ⟨IsB.append h.1 hc (by omega),by simp [h.2.1],hl⟩
def DA (o:OpV):Bs:=ap 1 4++ap 2 o.n++ap 2 o.h++ap 4 o.i
def HY (o:OpV):Bs:=DA o++ap 1 ((bN o.l:Int)+2)++ap 1 2++ap 1 (bN o.l)++cf o.l
def dt (o:OpV):Bs:=bif jb o then (bif decide (o.l.length=0) then DA o++ap 1 0 else HY o) else []
structure UX (o:OpV):Prop where
 n:1≤o.n∧o.n≤65535
 h:o.h=0∨(3≤o.h∧o.h≤65535)
 i:o.i≠0
 l:ld o.l=true
theorem sc {o:OpV} (h:jb o=true):UX o:=by
 unfold jb at h
 simp only [Bool.and_eq_true,Bool.or_eq_true,decide_eq_true_eq,Bool.not_eq_true',decide_eq_false_iff_not] at h
 obtain ⟨h1,h2,h3,h4,h5⟩:=h
 exact ⟨⟨h1,h2⟩,h3,h4,h5⟩
theorem LO (o:OpV):PwM 32 (DA o):=(((PwM.zero (by decide) (by decide)).step (by decide) (by decide)).step (by decide) (by decide)).step (by decide) (by decide)
theorem LP {o:OpV} (hw:yG o.l) (hg:ld o.l=true):PwM 256 (HY o):=by
 have hd:=iR hw hg
 exact ((((LO o).step (by decide) (by decide)).step (by decide) (by decide)).step (by decide) (by decide)).app (q:=200) (po hd.1 hd.2) (by rw [jL];exact hd.2) (by decide)
theorem nI {o:OpV} (hw:yG o.l):IsB (dt o)∧(dt o).length≤256:=by
 unfold dt
 cases hg:jb o
 ·exact ⟨.nil,Nat.zero_le _⟩
 ·cases decide (o.l.length=0)
  ·have:=LP hw (sc hg).l;exact ⟨this.1,this.2.2⟩
  ·have:=(LO o).step (k:=1) (n:=0) (by decide) (by decide);exact ⟨this.1,Nat.le_trans this.2.2 (by decide)⟩
theorem RN {o:OpV} (ho:oI o):VCx Tryz.prog ae 0 LB [.agg o.cells] ⟨[], []⟩ fun x T' =>x= .vec 1 (dt o) .none∧T' =⟨[], []⟩:=by
  have hS:aZ Tryz.prog ae (aC [(pn,LL (jb o)),(lX,nE .i64 1),(iC,jr .i64 2),(p9,jr .u32 4),(sa,LJ)]):=aJ fun p hp=>by
    rcases List.mem_cons.1 hp with rfl | hp;exact RI _
    rcases List.mem_cons.1 hp with rfl | hp;exact BF
    rcases List.mem_cons.1 hp with rfl | hp;exact Hp
    rcases List.mem_cons.1 hp with rfl | hp;exact Bl
    obtain rfl:=List.mem_singleton.1 hp;exact RM
  have hw:=ho.1
  refine VCx.toLe (Q:=fun T' =>T' =⟨[], []⟩) (VCx.keepV (Q:=fun x=>TVle x (.vec 1 (dt o) .none)) (ai ac aa hS ah (Tx o.n o.h o.i (bv o.l) (HY o) (0+bN o.l) (jb o) _) ⟨⟨o,rfl,ho,rfl⟩, ?_⟩))
  have hB:=(nI hw).1
  cases hg:jb o
  · refine aQ rfl ?_
    unfold dt;rw [hg];exact .nil 1
  have eB:dt o=bif decide (o.l.length=0) then DA o++ap 1 0 else HY o:=by unfold dt;rw [hg];rfl
  have G:=sc hg
  have hd:=iR hw G.l
  have hpl:=jL o.l
  have eb:nG (bv o.l)=cf o.l:=by unfold nG;rw [lf]
  have ok16:∀z:Int,0≤z→z≤65535→co z 2:=fun z h0 h1=>⟨⟨h0,by omega⟩,by decide,by decide⟩
  have ok8:∀z:Int,0≤z→z≤65535→co z 1:=fun z h0 h1=>⟨⟨h0,by omega⟩,by decide,by decide⟩
  have hh:0≤o.h∧o.h≤65535:=by rcases G.h with h | h<;>omega
  have m1:PwM 8 (ap 1 4):= .zero (by decide) (by decide)
  have m2:=m1.step (k:=2) (n:=o.n) (by decide) (by decide)
  have m3:=m2.step (k:=2) (n:=o.h) (by decide) (by decide)
  have m4:=m3.step (k:=4) (n:=o.i) (by decide) (by decide)
  have e3:((((some (TV.val (.int .u32 o.i))=some (TV.val (.int .u32 o.i))))∧((some (TV.val (.int .i64 o.h))=some (TV.val (.int .i64 o.h)))∧((some (TV.val (.int .i64 o.n))=some (TV.val (.int .i64 o.n)))∧True)))):=⟨rfl,rfl,rfl,trivial⟩
  refine aM rfl ⟨rfl,ok8 4 (by decide) (by decide),e3,rfl,⟨ok16 _ (by have:=G.n.1;omega) G.n.2,m1.v⟩,e3,rfl,⟨ok16 _ hh.1 hh.2,m2.v⟩,e3,rfl,⟨⟨⟨ho.2.1,by have:=ho.2.2;omega⟩,by decide,by decide⟩,m3.v⟩, ?_⟩
  rw [ec,cG,eb,hpl,bP (z:=((bN o.l:Nat):Int)+2) (by omega) (by have:=hd.2;omega)]
  have ez:decide (((o.l.length:Nat):Int)=0)=decide (o.l.length=0):=decide_eq_decide.2 (by omega)
  rw [ez]
  refine am (fun c=> ?_) (fun c=> ?_)
  · rw [c] at eB
    refine ⟨rfl,⟨ok8 0 (by decide) (by decide),m4.v⟩, ?_⟩
    rw [eB]
    have:=m4.step (k:=1) (n:=0) (by decide) (by decide)
    simp only [TV.ren,cond_true]
    rw [this.1.ren]
    exact .vec 1 _ _
  · rw [c] at eB
    have m5:=m4.step (k:=1) (n:=(bN o.l:Int)+2) (by decide) (by decide)
    have m6:=m5.step (k:=1) (n:=2) (by decide) (by decide)
    have m7:=m6.step (k:=1) (n:=(bN o.l:Int)) (by decide) (by decide)
    refine ⟨⟨o.l,rfl,hw,G.l⟩,rfl,⟨ok8 _ (by omega) (by have:=hd.2;omega),m4.v⟩,rfl,⟨ok8 2 (by decide) (by decide),m5.v⟩,rfl,⟨ok8 _ (by omega) (by have:=hd.2;omega),m6.v⟩, ?_, ?_⟩
    · have h:=iO (ro:=0) (T:=⟨[.cells o.cells], [(0,1,false),(0,1,false),(0,1,false),(0,1,false)]⟩) (T1:=⟨[.cells o.cells], [(0,1,false),(0,1,false),(0,1,false),(0,1,false)]⟩) (s:= .tmp 36) (x:= .tmp 37) (l:= [(36, .vec 1 (ap 1 4++ap 2 o.n++ap 2 o.h++ap 4 o.i++ap 1 ((bN o.l:Int)+2)++ap 1 2++ap 1 (bN o.l)) (.tail 3 0)),(37, .vec 1 (cf o.l) .none)]) (es:=ap 1 4++ap 2 o.n++ap 2 o.h++ap 4 o.i++ap 1 ((bN o.l:Int)+2)++ap 1 2++ap 1 (bN o.l)) (es2:=cf o.l) (k:=3) (n:=0) (bn:=false) rfl rfl (by have h1:=m7.2.2;have h2:=hd.2;omega)
      rw [hpl] at h
      exact h
    · rw [eB]
      have hX:=LP hw G.l
      simp only [TV.ren,cond_false]
      rw [hX.1.ren]
      exact .vec 1 _ _
end

end Go.Proofs.YtogbdjlelkepcaaGreatDoor