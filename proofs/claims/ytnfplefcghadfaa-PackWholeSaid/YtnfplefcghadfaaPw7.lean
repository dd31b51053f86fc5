/-Part 7 of the proof of packWhole_holds:PkL,PkM,Slices ... No condition. -/
import Derived.Deep.Slices
import Derived.LaidHandle
import Derived.ProofKit
import Derived.OpenShut
import Derived.Lib.SmallJoins
import Derived.Test.YtnfplefcghadfaaPw1
import Derived.Test.YtnfplefcghadfaaPw2
import Derived.Test.YtnfplefcghadfaaPw3
import Derived.Test.YtnfplefcghadfaaPw4
import Derived.Test.YtnfplefcghadfaaPw5
import Derived.Test.YtnfplefcghadfaaPw6
set_option maxRecDepth 100000
namespace Go.Proofs.Ytnfplefcghadfaa
section
open Go.RowKit

theorem oQ {l:List Px} (h:l.Nodup):(ea l).Pairwise dj:=by
 have h1:=tY l
 have h2:(ea l).Nodup:=(List.mergeSort_perm l _).nodup_iff.2 h
 refine List.Pairwise.imp₂ ?_ h1 h2
 intro a b h3 h4
 exact Classical.byContradiction fun hc=>h4 (pM hc h3)
theorem uB (cs:List Ch):(ba cs).map (·.1)=ea (dN cs):=by
 unfold ba
 rw [List.map_map]
 conv=>rhs;rw [←List.map_id (ea (dN cs))]
 rfl
theorem xM (cs:List Ch):((ba cs).map (·.1)).Nodup:=by
 rw [uB];exact (List.mergeSort_perm _ _).nodup_iff.2 (iv cs)
theorem jS {cs:List Ch} {p:Px} {v:AtV × Bool}:(p,v)∈ba cs ↔ eD cs p=some v:=
 ⟨fun h=>nx (lJ.1 h),fun h=>lJ.2 (v6 h)⟩
theorem ib {cs:List Ch} {c:Ch} (h:c∈ba cs):cV c=true:=by
 obtain ⟨i,_,h2,h3⟩:=jn.1 (lJ.1 h)
 obtain ⟨_,d,h4,h5,_⟩:=pP h3
 rw [h2] at h4;injection h4 with h4;subst h4;exact h5
theorem xN {L:List Ch} (hg:∀c∈L,cV c=true) (hn:(L.map (·.1)).Nodup) {c:Ch} (hc:c∈L):eD L c.1=some c.2:=by
 have key:∀j,(∃i,i<j∧L[i]?=some c)→∃i,eV L j c.1=some i∧L[i]?=some c:=by
  intro j
  induction j with
  | zero=>rintro ⟨i,h,_⟩;exact absurd h (Nat.not_lt_zero i)
  | succ j ih=>
   rintro ⟨i,hi,hci⟩
   cases hj:L[j]? with
   | none=>
    simp only [eV,hj]
    refine ih ⟨i,Classical.byContradiction fun hh=> ?_,hci⟩
    obtain rfl:i=j:=by omega
    rw [hj] at hci;cases hci
   | some d=>
    rw [oM hj,hg d (List.mem_of_getElem? hj),Bool.true_and]
    cases hd:decide (d.1=c.1) with
    | true=>
     refine ⟨j,rfl, ?_⟩
     --same prefix,same place
     have h1:(L.map (·.1))[j]?=some d.1:=by simp [hj]
     have h2:(L.map (·.1))[i]?=some d.1:=by rw [of_decide_eq_true hd];simp [hci]
     have hij:j=i:=by
      have hjl:=(List.getElem?_eq_some_iff.1 h1).1
      have hil:=(List.getElem?_eq_some_iff.1 h2).1
      have e1:=(List.getElem?_eq_some_iff.1 h1).2
      have e2:=(List.getElem?_eq_some_iff.1 h2).2
      exact (List.getElem_inj hn).1 (e1.trans e2.symm)
     rw [hij];exact hci
    | false=>
     rw [cond_false]
     refine ih ⟨i,Classical.byContradiction fun hh=> ?_,hci⟩
     obtain rfl:i=j:=by omega
     rw [hj] at hci;injection hci with hci;subst hci
     exact of_decide_eq_false hd rfl
 obtain ⟨i,hi⟩:=List.mem_iff_getElem?.1 hc
 obtain ⟨k,h1,h2⟩:=key L.length ⟨i,(List.getElem?_eq_some_iff.1 hi).1,hi⟩
 unfold eD
 rw [h1,Option.bind_some,h2];rfl
theorem Ce {L:List Ch} {p:Px} {v:AtV × Bool} (h:eD L p=some v):(p,v)∈L:=by
 obtain ⟨i,_,h2,_⟩:=jn.1 (v6 h)
 exact List.mem_of_getElem? h2
theorem Cf {cs ds:List Ch} (h:∀p,eD cs p=eD ds p):ba cs=ba ds:=by
 have e:ea (dN cs)=ea (dN ds):=by
  refine lB (oQ (iv _)) (oQ (iv _)) fun p=> ?_
  have key:∀L:List Ch,p∈ea (dN L) ↔ ∃v,eD L p=some v:=fun L=>by
   rw [←uB]
   constructor
   ·intro hp
    obtain ⟨c,hc,rfl⟩:=List.mem_map.1 hp
    exact ⟨c.2,jS.1 hc⟩
   ·rintro ⟨v,hv⟩
    exact List.mem_map.2 ⟨(p,v),jS.2 hv,rfl⟩
  rw [key,key,h]
 unfold ba lF
 rw [e]
 refine List.map_congr_left fun p _=> ?_
 rw [h]
theorem Ap {cs L:List Ch} (h:L.Perm (ba cs)):ba L=ba cs:=by
 have hn:(L.map (·.1)).Nodup:=(h.map _).nodup_iff.2 (xM cs)
 have hg:∀c∈L,cV c=true:=fun c hc=>ib (h.mem_iff.1 hc)
 refine Cf fun p=> ?_
 cases hq:eD cs p with
 | some v=>exact xN hg hn (h.mem_iff.2 (jS.2 hq))
 | none=>
  cases hr:eD L p with
  | none=>rfl
  | some v=>
   have:=jS.1 (h.mem_iff.1 (Ce hr))
   rw [hq] at this;cases this
def Like (l:List Ch):Prop:=(∀c∈l,c.2=(bS,true))∨∃a,∀c∈l,c.2=(a,false)
theorem Aq {l:List Ch} (hl:Like l) (hne:l≠ []):bU [bJ l]=l:=by
 cases l with
 | nil=>exact absurd rfl hne
 | cons c l=>
  have hof:bJ (c::l)=bif c.2.2 then ⟨(c::l).map (·.1),bS, []⟩ else ⟨[],c.2.1,(c::l).map (·.1)⟩:=rfl
  unfold bU
  rw [List.flatMap_cons,List.flatMap_nil,List.append_nil]
  rcases hl with h | ⟨a,h⟩
  ·have h1:=h c List.mem_cons_self
   rw [hof,h1]
   simp only [cond_true,List.map_nil,List.append_nil,List.map_map]
   conv=>rhs;rw [←List.map_id (c::l)]
   refine List.map_congr_left fun d hd=> ?_
   simp only [Function.comp_apply,id_eq]
   rw [←h d hd]
  ·have h1:=h c List.mem_cons_self
   rw [hof,h1]
   simp only [cond_false,List.map_nil,List.nil_append,List.map_map]
   conv=>rhs;rw [←List.map_id (c::l)]
   refine List.map_congr_left fun d hd=> ?_
   simp only [Function.comp_apply,id_eq]
   rw [←h d hd]
theorem lK (a b:List UpV):bU (a++b)=bU a++bU b:=List.flatMap_append
theorem Like.sub {l m:List Ch} (h:Like l) (hs:∀c∈m,c∈l):Like m:=by
 rcases h with h | ⟨a,h⟩
 ·exact .inl fun c hc=>h c (hs c hc)
 ·exact .inr ⟨a,fun c hc=>h c (hs c hc)⟩
theorem qa {l:List Ch} (hl:Like l):bU (bA l)=l:=by
 obtain ⟨h1,h2,_⟩:=fV l
 unfold bA
 conv=>rhs;rw [←h1]
 have:∀L:List (List Ch),(∀c∈L,c≠ []∧Like c)→bU (L.map bJ)=L.flatten:=fun L=>by
  induction L with
  | nil=>intro _;rfl
  | cons c L ih=>
   intro h
   rw [List.map_cons,List.flatten_cons,←ih fun d hd=>h d (List.mem_cons_of_mem _ hd),show bJ c::L.map bJ= [bJ c]++L.map bJ from rfl,lK,Aq (h c List.mem_cons_self).2 (h c List.mem_cons_self).1]
 exact this _ fun c hc=>⟨h2 c hc,hl.sub fun x hx=>gl hc hx⟩
theorem j5 (f:Ch→Bool) (l:List Ch):(l.filter f++l.filter fun c=> !f c).Perm l:=List.filter_append_perm f l
theorem m4:∀(n:Nat) (l:List Ch),l.length≤n→(∀c∈l,c.2.2=false)→(bU (cp l)).Perm l
 | _, [],_,_=>by unfold cp;rw [dP];exact List.Perm.refl _
 | 0,c::l,h,_=>by simp at h
 | n+1,c::l,h,hg=>by
  have h3:=(gM c l (fun x=>decide (x.2.1=c.2.1)) (by simp)).1
  rw [iz,lK]
  have ih:=m4 n ((c::l).filter fun x=> !decide (x.2.1=c.2.1)) (by simp only [List.length_cons] at h;omega) fun d hd=>hg d (List.mem_filter.1 hd).1
  rw [qa (.inr ⟨c.2.1,fun d hd=>by
   obtain ⟨h1,h2⟩:=List.mem_filter.1 hd
   have h4:=hg d h1
   rw [←of_decide_eq_true h2,←h4]⟩)]
  exact (List.Perm.append_left _ ih).trans (j5 (fun x=>decide (x.2.1=c.2.1)) (c::l))
theorem rM {cs:List Ch}:Like ((ba cs).filter fun c=>c.2.2):= .inl fun c hc=>by
 obtain ⟨h1,h2⟩:=List.mem_filter.1 hc
 have hg:=ib h1
 obtain ⟨p,a,g⟩:=c
 simp only at h2
 subst h2
 unfold cV tZ at hg
 simp only [cond_true,Bool.and_eq_true,decide_eq_true_eq] at hg
 rw [hg.2]
theorem lL (cs:List Ch):cC cs=bA ((ba cs).filter fun c=>c.2.2)++cp ((ba cs).filter fun c=> !c.2.2):=by
 unfold cC cp
 rw [iy _ _ _ (List.length_filter_le _ _) (Nat.le_refl _)]
theorem u5 (cs:List Ch):(bU (cC cs)).Perm (ba cs):=by
 rw [lL,lK,qa rM]
 refine (List.Perm.append_left _ (m4 _ _ (Nat.le_refl _) fun c hc=> ?_)).trans (j5 (fun c=>c.2.2) (ba cs))
 have:=(List.mem_filter.1 hc).2
 simpa using this
theorem nA (fl t:Int) (v:Bs):(dE fl t v).length≤4+v.length:=by
 have:=tA fl v
 unfold dE rt
 rw [List.length_append,List.length_take]
 cases kC fl<;>simp only [cond_true,cond_false,List.length_cons,List.length_nil]<;>omega
theorem El (l:List Int):(fv (iV l)).length≤2+2*l.length:=by
 unfold fv
 cases hb:(iV l).isEmpty with
 | true=>simp
 | false=>
  have:(rz (iV l)).length=l.length:=by simp [rz,iV]
  simp only [cond_false,List.length_append,bN,iK,this]
  omega
theorem Ar (a:AtV):(ig a).length≤100:=by
 unfold ig
 cases h:dM a with
 | false=>simp
 | true=>
  have hp:=(pJ h).p.1
  have h1:=nA 64 1 (aL 1 a.o)
  have h2:=nA 64 2 (fv (iV a.p))
  have h3:=nA 64 3 (aL 4 a.h)
  have h4:=nA 128 4 (aL 4 a.m)
  have h5:=El a.p
  rw [bN] at h1 h3 h4
  simp only [cond_true]
  unfold ei fh
  rw [List.flatMap_append,List.length_append]
  have e1:([(64,1,aL 1 a.o),(64,2,fv (iV a.p)),(64,3,aL 4 a.h)]:List lV).flatMap (fun r=>dE r.1 r.2.1 r.2.2)=dE 64 1 (aL 1 a.o)++(dE 64 2 (fv (iV a.p))++dE 64 3 (aL 4 a.h)):=by simp
  rw [e1,List.length_append,List.length_append]
  cases a.hm with
  | true=>
   have e2:(bif true then [(128,4,aL 4 a.m)] else []:List lV).flatMap (fun r=>dE r.1 r.2.1 r.2.2)=dE 128 4 (aL 4 a.m):=by simp
   rw [e2]
   have:Int.toNat 4=4:=rfl
   have:Int.toNat 1=1:=rfl
   omega
  | false=>
   have:Int.toNat 4=4:=rfl
   have:Int.toNat 1=1:=rfl
   simp only [cond_false,List.flatMap_nil,List.length_nil]
   omega
theorem Cg (u:UpV):gj u≤5*(u.w.length+u.n.length)+104:=by
 unfold gj
 cases fS u with
 | false=>simp only [cond_false];omega
 | true=>
  have h1:=eS u.w
  have h2:=eS u.n
  have h3:=Ar u.a
  have h4:(mS u).length≤100:=by
   unfold mS
   cases decide ((u.n.length:Int)>0)
   ·simp
   ·exact h3
  simp only [cond_true]
  unfold nU
  simp only [List.length_append,bN]
  have:Int.toNat 2=2:=rfl
  omega
theorem wl (may:List Ch→Bool) (l:List Ch):∀f n,jp may l f n=n∨may (l.take (jp may l f n))=true
 | 0,n=> .inl rfl
 | f+1,n=>by
  unfold jp
  cases hb:decide (n<l.length)&&may (l.take (n+1)) with
  | false=>exact .inl rfl
  | true=>
   rw [cond_true]
   rcases wl may l f (n+1) with h | h
   ·rw [h]
    simp only [Bool.and_eq_true] at hb
    exact .inr hb.2
   ·exact .inr h
theorem rN (may:List Ch→Bool):∀(f:Nat) (l:List Ch),∀c∈dk may f l,c.length≤1∨may c=true
  | 0,_,c,h=>by cases h
  | f+1, [],c,h=>by cases h
  | f+1,a::l,c,h=>by
    have e:dk may (f+1) (a::l)=(a::l).take (b7 may (a::l))::dk may f ((a::l).drop (b7 may (a::l))):=rfl
    rw [e] at h
    rcases List.mem_cons.1 h with rfl | h
    · rcases wl may (a::l) (a::l).length 1 with h1 | h1
      · left
        show ((a::l).take (jp may (a::l) (a::l).length 1)).length≤1
        rw [h1,List.length_take];omega
      · exact .inr h1
    · exact rN may f _ c h
theorem Em (l:List Ch):(bJ l).w.length+(bJ l).n.length=l.length:=by
 cases l with
 | nil=>rfl
 | cons c l=>
  have hof:bJ (c::l)=bif c.2.2 then ⟨(c::l).map (·.1),bS, []⟩ else ⟨[],c.2.1,(c::l).map (·.1)⟩:=rfl
  rw [hof]
  cases c.2.2<;>simp
structure qb (u:UpV):Prop where
 g:fS u=true
 ne:(u.w.isEmpty&&u.n.isEmpty)=false
 sz:gj u≤4077
 one:u.w= []∨u.n= []
theorem GP {b x y:Bool} (h:b=true) (k:x=true):cond b x y=true:=by subst h;exact k
theorem En {l:List Ch} (hl:Like l) (hg:∀c∈l,cV c=true) (hne:l≠ []) (hs:l.length≤1∨bL l=true):qb (bJ l):=by
 have hlen:=Em l
 have hsz:gj (bJ l)≤4077:=by
  rcases hs with h | h
  ·have:=Cg (bJ l);omega
  ·exact of_decide_eq_true h
 cases l with
 | nil=>exact absurd rfl hne
 | cons c l=>
  have hof:bJ (c::l)=bif c.2.2 then ⟨(c::l).map (·.1),bS, []⟩ else ⟨[],c.2.1,(c::l).map (·.1)⟩:=rfl
  have hpx:((c::l).map fun c=>c.1).all (fun p=>gq p.1 p.2)=true:=by
   rw [List.all_eq_true]
   intro p hp
   obtain ⟨d,hd,rfl⟩:=List.mem_map.1 hp
   have:=hg d hd
   unfold cV tZ at this
   rw [Bool.and_eq_true] at this
   exact this.1
  rcases hl with h | ⟨a,h⟩
  ·have h1:=h c List.mem_cons_self
   rw [h1,cond_true] at hof
   rw [hof] at hsz ⊢
   refine ⟨?_,rfl,hsz, .inr rfl⟩
   unfold fS
   simp only [List.append_nil]
   rw [hpx];rfl
  ·have h1:=h c List.mem_cons_self
   have h2:=hg c List.mem_cons_self
   rw [h1,cond_false] at hof
   rw [hof] at hsz ⊢
   refine ⟨?_,rfl,hsz, .inl rfl⟩
   unfold fS
   simp only [List.nil_append]
   rw [hpx,Bool.true_and]
   refine GP (by simp) ?_
   unfold cV tZ at h2
   rw [h1,cond_false,Bool.and_eq_true] at h2
   exact h2.2
theorem wm {l:List Ch} (hl:Like l) (hg:∀c∈l,cV c=true):∀u∈bA l,qb u:=by
 intro u hu
 obtain ⟨c,hc,rfl⟩:=List.mem_map.1 hu
 exact En (hl.sub fun x hx=>gl hc hx) (fun x hx=>hg x (gl hc hx)) ((fV l).2.1 c hc) (rN bL _ l c hc)
theorem uC {l:List Ch} (k:Bool) (h:∀c∈l,c.2.2=k):∀u∈bA l,bif k then u.n= [] else u.w= []:=by
 intro u hu
 obtain ⟨c,hc,rfl⟩:=List.mem_map.1 hu
 cases c with
 | nil=>cases k<;>rfl
 | cons x xs=>
  have hof:bJ (x::xs)=bif x.2.2 then ⟨(x::xs).map (·.1),bS, []⟩ else ⟨[],x.2.1,(x::xs).map (·.1)⟩:=rfl
  have:=h x (gl hc List.mem_cons_self)
  rw [hof,this]
  cases k<;>rfl
theorem m5:∀(n:Nat) (l:List Ch),l.length≤n→(∀c∈l,c.2.2=false)→(∀c∈l,cV c=true)→∀u∈cp l,qb u∧u.w= []
 | _, [],_,_,_,u,hu=>by unfold cp at hu;rw [dP] at hu;cases hu
 | 0,c::l,h,_,_,_,_=>by simp at h
 | n+1,c::l,h,hg,hk,u,hu=>by
  have h3:=(gM c l (fun x=>decide (x.2.1=c.2.1)) (by simp)).1
  rw [iz] at hu
  rcases List.mem_append.1 hu with hu | hu
  ·refine ⟨wm (.inr ⟨c.2.1,fun d hd=> ?_⟩) (fun d hd=>hk d (List.mem_filter.1 hd).1) u hu, ?_⟩
   ·obtain ⟨h1,h2⟩:=List.mem_filter.1 hd
    have h4:=hg d h1
    rw [←of_decide_eq_true h2,←h4]
   ·exact uC false (fun d hd=>hg d (List.mem_filter.1 hd).1) u hu
  ·exact m5 n _ (by simp only [List.length_cons] at h;omega) (fun d hd=>hg d (List.mem_filter.1 hd).1) (fun d hd=>hk d (List.mem_filter.1 hd).1) u hu
theorem Ci (cs:List Ch):∀u∈cC cs,qb u:=by
 intro u hu
 rw [lL] at hu
 rcases List.mem_append.1 hu with hu | hu
 ·exact wm rM (fun c hc=>ib (List.mem_filter.1 hc).1) u hu
 ·exact (m5 _ _ (Nat.le_refl _) (fun c hc=>by have:=(List.mem_filter.1 hc).2;simpa using this) (fun c hc=>ib (List.mem_filter.1 hc).1) u hu).1
theorem xO (cs:List Ch):(cC cs).Pairwise fun a b=>b.w≠ []→a.n= []:=by
 rw [lL]
 have h1:∀u∈bA ((ba cs).filter fun c=>c.2.2),u.n= []:=fun u hu=>uC true (fun c hc=>(List.mem_filter.1 hc).2) u hu
 have h2:∀u∈cp ((ba cs).filter fun c=> !c.2.2),u.w= []:=fun u hu=>(m5 _ _ (Nat.le_refl _) (fun c hc=>by have:=(List.mem_filter.1 hc).2;simpa using this) (fun c hc=>ib (List.mem_filter.1 hc).1) u hu).2
 refine List.pairwise_append.2 ⟨?_, ?_,fun a ha b hb hw=>h1 a ha⟩
 ·exact List.pairwise_of_forall_mem_list fun a ha b _ _=>h1 a ha
 ·exact List.pairwise_of_forall_mem_list fun a _ b hb hw=>absurd (h2 b hb) hw
end
section
open Go.RowKit
set_option maxRecDepth 100000

theorem m6 (x:Ch):∀(l:List Ch) (c:Int),jq c (l++ [x])=IntKind.wrap .i64 (jq c l+(x.2.1.p.length:Int))
 | [],c=>rfl
 | a::l,c=>m6 x l _
theorem u6 (c:Int) (x:Ch) (l:List Ch):eW c (x::l)=bif decide (IntKind.wrap .i64 (c+(x.2.1.p.length:Int))>3000) then false else eW (IntKind.wrap .i64 (c+(x.2.1.p.length:Int))) l:=rfl
theorem Eo {cs:List Ch} (hl:cs.length≤60) (K:KX) (hK:bif eW 0 cs then K .normal (ak 27 pW (kL (cs.map aj) .none (jq 0 cs) ((cs.map aj).length:Nat))) ⟨[], []⟩ [] else ∀(cc jj:Int) (oo:List VO),K .ret (ak 27 pW (kL (cs.map aj) .none cc jj)) ⟨oo, []⟩ []):
    VWx Try.prog ae none 0 (am Try.prog ik 0) (ak 27 pW (kL (cs.map aj) .none 0 0)) ⟨[], []⟩ [] K:=by
  have hlen:=cD cs
  refine cH (f:=ik) (id:=0) (by kernel_rfl) 27 pW (fun j:Nat=>cs.length-j) (fun j:Nat=>kL (cs.map aj) .none (jq 0 (cs.take j)) (j:Int)) (fun _=>⟨[], []⟩) (fun j=>j≤cs.length∧eW (jq 0 (cs.take j)) (cs.drop j)=eW 0 cs) 0 0 (fun j _=>⟨Nat.le_refl _,Nat.le_refl _⟩)
    (fun e vs T=>(eW 0 cs=true∧T=⟨[], []⟩∧e= .normal∧vs=kL (cs.map aj) .none (jq 0 cs) ((cs.map aj).length:Nat))∨(eW 0 cs=false∧e= .ret∧∃(cc jj:Int) (oo:List VO),T=⟨oo, []⟩∧vs=kL (cs.map aj) .none cc jj)) (fun j ⟨hj,ht⟩=> ?_) 0 ⟨Nat.zero_le _,rfl⟩ K ?_
  rotate_left
  · rintro e vs T (⟨h1,rfl,rfl,rfl⟩ | ⟨h1,rfl,cc,jj,oo,rfl,rfl⟩)
    · rw [h1,cond_true] at hK;exact hK
    · rw [h1,cond_false] at hK;exact hK cc jj oo
  by_cases hlt:j<cs.length
  · have hr:=List.getElem?_eq_getElem hlt
    have hd:cs.drop j=cs[j]::cs.drop (j+1):=List.drop_eq_getElem_cons hlt
    generalize cs[j]=c at hr hd
    refine bh ac aa ah ag (Ae (cs.map aj) .none c.1.1 c.1.2 (jq 0 (cs.take j)) c.2.1 c.2.2 j _) ?_
    rw [eR]
    rw [hd,u6] at ht
    refine be (decide_eq_true (by rw [hlen];omega)) ⟨ny 12 14 rfl hr, ?_⟩
    refine bp (fun hb=> ?_) (fun hb=> ?_)
    · rw [hb,cond_true] at ht
      exact ⟨rfl,rfl, .inr ⟨ht.symm,rfl,_,_,_,rfl,rfl⟩⟩
    · rw [hb,cond_false] at ht
      rw [eC (by omega)]
      refine ⟨rfl,rfl,j+1,⟨hlt,by rw [cF hr,m6];exact ht⟩,by show cs.length-(j+1)<cs.length-j;omega, .inr ⟨rfl, ?_⟩⟩
      show _=kL _ _ (jq 0 (cs.take (j+1))) _
      rw [cF hr,m6]
      simp only [kL,av,TV.ren,bc,Tok.ren]
  · obtain rfl:j=cs.length:=by omega
    rw [List.take_length,List.drop_length] at ht
    refine bh ac aa ah ag (Ae (cs.map aj) .none 0 0 (jq 0 (cs.take cs.length)) bS true cs.length _) (aI (decide_eq_false (by rw [hlen];omega)) ?_)
    refine ⟨rfl,rfl, .inl ⟨ht.symm,rfl,rfl, ?_⟩⟩
    rw [List.take_length]
    simp only [kL,hlen]
theorem GQ (cs:List Ch):VCx Try.prog ae 0 ik [.vec 8 (cs.map aj) .none, .val (.int .i64 60)] ⟨[], []⟩ fun x T' =>x= .val (.bool (kJ cs))∧T' =⟨[], []⟩:=by
  have hlen:=cD cs
  unfold kJ
  by_cases hl:cs.length≤60
  · rw [decide_eq_false (show ¬((cs.length:Int)>60) by omega),cond_false]
    refine VCx.keepQ 0 0 (Nat.le_refl _) (Nat.le_refl _) (ai ac aa ah (bf fun p hp=> ?_) (HL (cs.map aj) .none (jq 0 cs) (eW 0 cs) _) (aI (decide_eq_false (by rw [hlen];omega)) ⟨rfl,⟨rfl,rfl,rfl,trivial,rfl,rfl,rfl⟩, ?_⟩))
    · obtain rfl:=List.mem_singleton.1 hp
      exact bq (Eo hl)
    · cases eW 0 cs with
      | true=>exact ⟨rfl,rfl⟩
      | false=>exact fun cc jj oo=>⟨rfl,rfl⟩
  · rw [decide_eq_true (show ((cs.length:Int)>60) by omega),cond_true]
    exact VCx.keepQ 0 0 (Nat.le_refl _) (Nat.le_refl _) (ai ac aa ah (uA _) (Gi (cs.map aj) .none _) (be (decide_eq_true (by rw [hlen];omega)) ⟨rfl,rfl⟩))
theorem GR (b:Bool):∀ro ys T K,zS b ro ys T K→VCx Try.prog ae ro ik ys T K:=by
 intro ro ys T K h
 unfold zS at h
 split at h
 ·obtain ⟨⟨cs,rfl,rfl⟩,hk⟩:=h
  exact VCx.loosePure ap (GQ cs) (by simp [bH]) (by simp only [av,TV.ren,bc,Tok.ren]) (fun _ _=>rfl) hk
 ·exact h.elim
theorem GS (b:Bool):∀ro ys T K,F9 b ro ys T K→VCx Try.prog ae ro jN ys T K:=by
 intro ro ys T K h
 unfold F9 at h
 split at h
 ·obtain ⟨⟨rfl,cs,ds,rfl,rfl,hc,hd,rfl⟩,hk⟩:=h
  exact VCx.loosePure ap (GO hc hd) (by simp [bH]) (by simp only [av,TV.ren,bc,Tok.ren]) (fun _ _=>rfl) hk
 ·exact h.elim
theorem GT (b:Bool):∀ro ys T K,zQ b ro ys T K→VCx Try.prog ae ro v7 ys T K:=by
 intro ro ys T K h
 unfold zQ at h
 split at h
 ·obtain ⟨⟨cs,ds,rfl,rfl,hc,hd,rfl⟩,hk⟩:=h
  have hv:VCx Try.prog ae 0 v7 [.vec 8 (cs.map aj) .none, .vec 8 (ds.map aj) .none] ⟨[], []⟩ fun x T' =>x= .val (.bool (decide (cs=ds)))∧T' =⟨[], []⟩:=by
   refine VCx.keepQ 0 0 (Nat.le_refl _) (Nat.le_refl _) (ai ac aa (aA fun p hp=> ?_) ag (HF (cs.map aj) (ds.map aj) .none .none (decide (cs=ds)) _) ⟨⟨rfl,cs,ds,rfl,rfl,hc,hd,rfl⟩,rfl,rfl⟩)
   obtain rfl:=List.mem_singleton.1 hp;exact GS _
  exact VCx.loosePure ap hv (by simp [bH]) (by simp only [av,TV.ren,bc,Tok.ren]) (fun _ _=>rfl) hk
 ·exact h.elim
def rO:List Ch:= [((16777216,8),⟨0, [],9,0,false⟩,false),((33554432,8),⟨0, [],9,0,false⟩,false)]
theorem xP {l:List Px} (h:l.Pairwise dj):ea l=l:=
 lB (oQ (h.imp fun {a b} h e=>by subst e;exact er _ h)) h fun x=>(List.mergeSort_perm l _).mem_iff
theorem Ep:cC rO= [⟨[],⟨0, [],9,0,false⟩, [(16777216,8),(33554432,8)]⟩]:=by
 have ho:ba rO=rO:=by
  have hk:dN rO= [(16777216,8),(33554432,8)]:=by decide+kernel
  unfold ba
  rw [hk,xP (by decide)]
  decide+kernel
 unfold cC
 rw [ho]
 decide+kernel
theorem GU:VCx Try.prog ae 0 wb [] ⟨[], []⟩ fun x T' =>x= .val (.bool true)∧T' =⟨[], []⟩:=by
 refine VCx.keepQ 0 0 (Nat.le_refl _) (Nat.le_refl _) (ai ac aa (aA fun p hp=>by obtain rfl:=List.mem_singleton.1 hp;exact An _) ag (HM [] ⟨0, [],9,0,false⟩ (cE (16777216,8)) (cE (33554432,8)) _) ⟨⟨rO,fun tok=> ?_,⟨by decide,fun c hc=> ?_⟩,by rw [Ep];rfl⟩,rfl,rfl⟩)
 ·intro g w u hu
  refine TVle.vecMem (f:=fun c:Ch=> [.val (.int .u32 c.1.1), .val (.int .i64 c.1.2), .val (.int .i64 0), .val (.slice none 0 0), .val (.int .u32 9), .val (.int .i64 0), .val (.bool false), .val (.bool false)]) (g:=aj) (l:=rO) (fun c hc=> ?_) g w u (ge hu)
  simp only [rO,List.mem_cons,List.not_mem_nil,or_false] at hc
  rcases hc with rfl | rfl<;>exact ⟨.refl _, .refl _, .refl _, .nil 1, .refl _, .refl _, .refl _, .refl _,trivial⟩
 ·simp only [rO,List.mem_cons,List.not_mem_nil,or_false] at hc
  rcases hc with rfl | rfl<;>exact ⟨Nat.zero_le _,by decide,by decide⟩
theorem GV:∀ro ys T K,zT ro ys T K→VCx Try.prog ae ro wb ys T K:=by
 intro ro ys T K h
 unfold zT at h
 split at h
 ·exact VCx.liftPure ap GU rfl (fun _ _=>rfl) h
 ·exact h.elim
def eF (us:List UpV):Bool:=us.any fun u=> !u.n.isEmpty
theorem Ie (l:List Px):decide (((au l).length:Int)>0)= !l.isEmpty:=by
 rw [bv]
 cases l with
 | nil=>rfl
 | cons a l=>simp only [List.length_cons,List.isEmpty_cons,Bool.not_false];exact decide_eq_true (by omega)
theorem GW (g e:Bool) (z:Int):aY Try.prog ae (ax [(CI,zU g),(zM,CN e),(v8,zV z)]):=aA fun p hp=>by
 rcases List.mem_cons.1 hp with rfl | hp;exact Ah _
 rcases List.mem_cons.1 hp with rfl | hp;exact Gv _
 obtain rfl:=List.mem_singleton.1 hp;exact Ai _
theorem Er {cs:List Ch} {us:List UpV} (hl:us.length≤50000) (hok:∀u∈us,fj u) (hf:∀u∈us,qb u) (hp:us.Pairwise fun a b=>b.w≠ []→a.n= []) (K:KX) (hK:K .normal (ak 72 ur (l3 (cs.map aj) .none (us.map UpV.cells) (eF us) ((us.map UpV.cells).length:Nat))) ⟨[], []⟩ []):
    VWx Try.prog ae none 0 (am Try.prog lX 0) (ak 72 ur (l3 (cs.map aj) .none (us.map UpV.cells) false 0)) ⟨[], []⟩ [] K:=by
  have hlen:(us.map UpV.cells).length=us.length:=List.length_map _
  refine cH (f:=lX) (id:=0) (by kernel_rfl) 72 ur (fun j:Nat=>us.length-j) (fun j:Nat=>l3 (cs.map aj) .none (us.map UpV.cells) (eF (us.take j)) (j:Int)) (fun _=>⟨[], []⟩) (fun j=>j≤us.length) 0 0 (fun j _=>⟨Nat.le_refl _,Nat.le_refl _⟩)
    (fun e vs T=>e= .normal∧vs=l3 (cs.map aj) .none (us.map UpV.cells) (eF us) ((us.map UpV.cells).length:Nat)∧T=⟨[], []⟩) (fun j hj=> ?_) 0 (Nat.zero_le _) K ?_
  rotate_left
  · rintro e vs T ⟨rfl,rfl,rfl⟩
    exact hK
  by_cases hlt:j<us.length
  · have hr:=List.getElem?_eq_getElem hlt
    have hm:us[j]∈us:=List.getElem_mem hlt
    have hpre:us[j].w≠ []→eF (us.take j)=false:=fun hw=>by
      unfold eF
      rw [List.any_eq_false]
      intro v hv
      obtain ⟨i,hi,rfl⟩:=List.mem_iff_getElem.1 hv
      rw [List.length_take] at hi
      rw [List.getElem_take]
      have:=(List.pairwise_iff_getElem.1 hp) i j (by omega) hlt (by omega) hw
      rw [this];simp
    generalize us[j]=u at hr hm hpre
    obtain ⟨q1,q2,q3,q4⟩:=hf u hm
    have hsn:eF (us.take (j+1))=(eF (us.take j) || !u.n.isEmpty):=by
      unfold eF;rw [cF hr,List.any_append];simp
    refine bh ac aa (GW true false (gj u)) ag (Af (cs.map aj) (us.map UpV.cells) (au u.w) (au u.n) .none u.a (eF (us.take j)) true false (gj u) j _) ?_
    rw [Ie,Ie,eC (by omega)]
    refine be (decide_eq_true (by rw [hlen];omega)) ⟨CT 13 15 rfl hr,⟨u,rfl,hok u hm,q1.symm⟩,aI rfl ⟨⟨u,rfl,hok u hm,q2.symm⟩,aI rfl ⟨⟨u,rfl,hok u hm,rfl⟩,aI (decide_eq_false (by omega)) ?_⟩⟩⟩
    have hend:∀(s:Bool) (o:List VO),s=eF (us.take (j+1))→pC 72 0 (fun j:Nat=>us.length-j) (fun j:Nat=>l3 (cs.map aj) .none (us.map UpV.cells) (eF (us.take j)) (j:Int)) (fun _=>⟨[], []⟩) (fun j=>j≤us.length) 0 0 j (fun e vs T=>e= .normal∧vs=l3 (cs.map aj) .none (us.map UpV.cells) (eF us) ((us.map UpV.cells).length:Nat)∧T=⟨[], []⟩)
        .normal (l3 (cs.map aj) .none (us.map UpV.cells) s ((j+1:Nat):Int)) ⟨o, []⟩ [] 72:=fun s o hs=>by
      subst hs
      refine ⟨rfl,rfl,j+1,hlt,by show us.length-(j+1)<us.length-j;omega, .inr ⟨?_, ?_⟩⟩
      · simp [VT.keep]
      · simp only [l3,av,TV.ren,bc,dl,Tok.ren]
    cases hw:u.w.isEmpty with
    | true=>
      refine aI rfl ?_
      refine bp (fun hs=> ?_) (fun hs=> ?_)
      · exact hend true _ (by rw [hsn,hs];rfl)
      · exact hend (!u.n.isEmpty) _ (by rw [hsn,hs];rfl)
    | false=>
      have hwn:u.w≠ []:=fun e=>by rw [e] at hw;cases hw
      have hn:u.n= []:=q4.resolve_left hwn
      have hs:=hpre hwn
      refine be rfl ?_
      refine aI (by rw [hn];rfl) ?_
      rw [hs]
      exact aI rfl (aI rfl (hend (!u.n.isEmpty) _ (by rw [hsn,hs];rfl)))
  · obtain rfl:j=us.length:=by omega
    refine bh ac aa (GW true true 0) ag (Af (cs.map aj) (us.map UpV.cells) [] [] .none bS (eF (us.take us.length)) true true 0 us.length _) (aI (decide_eq_false (by rw [hlen];omega)) ?_)
    rw [List.take_length]
    exact ⟨rfl,rfl,rfl,by simp only [l3,hlen],rfl⟩
theorem As {cs us:List Ch} (h:CsOk cs) (hp:us.Perm cs):CsOk us:=⟨by rw [hp.length_eq];exact h.few,fun c hc=>h.at' c (hp.mem_iff.1 hc)⟩
theorem At {l:List Ch} (h:CsOk l):∀u∈bA l,fj u:=by
 intro u hu
 obtain ⟨c,hc,rfl⟩:=List.mem_map.1 hu
 exact Aj (h.sub (p9 hc) fun x hx=>gl hc hx)
theorem uD:∀(n:Nat) (l:List Ch),l.length≤n→CsOk l→(∀u∈cp l,fj u)∧(cp l).length≤l.length
 | _, [],_,_=>by unfold cp;rw [dP];exact ⟨fun u h=>(by cases h),Nat.le_refl _⟩
 | 0,c::l,h,_=>by simp at h
 | n+1,c::l,h,hc=>by
  obtain ⟨h3,h4⟩:=gM c l (fun x=>decide (x.2.1=c.2.1)) (by simp)
  have ih:=uD n ((c::l).filter fun x=> !decide (x.2.1=c.2.1)) (by simp only [List.length_cons] at h;omega) (hc.filter _)
  have hu:=lI ((c::l).filter fun x=>decide (x.2.1=c.2.1))
  rw [iz]
  refine ⟨fun u hu=> ?_,by rw [List.length_append];omega⟩
  rcases List.mem_append.1 hu with hu | hu
  ·exact At (hc.filter _) u hu
  ·exact ih.1 u hu
theorem Es {cs:List Ch} (h:CsOk cs):(∀u∈cC cs,fj u)∧(cC cs).length≤50000:=by
  have ho:=nz h
  have h1:=At (ho.filter fun c=>c.2.2)
  have h2:=uD _ _ (Nat.le_refl _) (ho.filter fun c=> !c.2.2)
  have h3:=lI ((ba cs).filter fun c=>c.2.2)
  have h4:=(j5 (fun c=>c.2.2) (ba cs)).length_eq
  have h5:=ho.few
  rw [lL]
  refine ⟨fun u hu=> ?_, ?_⟩
  · rcases List.mem_append.1 hu with hu | hu
    · exact h1 u hu
    · exact h2.1 u hu
  · rw [List.length_append] at h4 ⊢
    omega
def uE (c:Ch):Prop:=c.2.1.p.length≤9223372036854775807∧0≤c.2.1.h∧c.2.1.h<4294967296
theorem GX {cs:List Ch} (h:∀c∈cs,uE c):VCx Try.prog ae 0 lX [.vec 8 (cs.map aj) .none] ⟨[], []⟩ fun x T' =>x= .val (.bool true)∧T' =⟨[], []⟩:=by
 have hS:aY Try.prog ae (ax [(ik,zS (kJ cs)),(wb,zT),(kK,wd ((cC cs).map UpV.cells)),(dO,zO ((bU (cC cs)).map aj)),(dF,wc uu),(v7,zQ true)]):=aA fun p hp=>by
  rcases List.mem_cons.1 hp with rfl | hp;exact GR _
  rcases List.mem_cons.1 hp with rfl | hp;exact GV
  rcases List.mem_cons.1 hp with rfl | hp;exact An _
  rcases List.mem_cons.1 hp with rfl | hp;exact GK _
  rcases List.mem_cons.1 hp with rfl | hp;exact Am
  obtain rfl:=List.mem_singleton.1 hp;exact GT _
 cases hb:kJ cs with
 | false=>
  rw [hb] at hS
  refine VCx.keepQ 0 0 (Nat.le_refl _) (Nat.le_refl _) (ai ac aa hS (uA _) (Gj (cs.map aj) ((cC cs).map UpV.cells) ((bU (cC cs)).map aj) .none uu false true _) ⟨⟨cs,rfl,hb.symm⟩,be rfl ⟨rfl,rfl⟩⟩)
 | true=>
  rw [hb] at hS
  have hl:cs.length≤60:=by
   unfold kJ at hb
   by_cases hd:(cs.length:Int)>60
   ·rw [decide_eq_true hd,cond_true] at hb;cases hb
   ·omega
  have hc:CsOk cs:=⟨by omega,h⟩
  have ho:=nz hc
  have hpm:=u5 cs
  have hu:=As ho hpm
  have heq:=Ap hpm
  obtain ⟨k1,k2⟩:=Es hc
  have k3:=hu.few
  refine VCx.keepQ 0 0 (Nat.le_refl _) (Nat.le_refl _) (ai ac aa hS (bf fun p hp=> ?_) (HN (cs.map aj) ((cC cs).map UpV.cells) ((bU (cC cs)).map aj) .none uu true true (eF (cC cs)) _) ⟨⟨cs,rfl,hb.symm⟩,aI rfl ⟨⟨cs,fun tok=> .vec 8 _ tok,hc,rfl⟩,rfl,⟨rfl,rfl,rfl,trivial,rfl,rfl,rfl⟩,⟨cC cs,rfl,k2,by omega,rfl⟩,⟨_,rfl,hu⟩,⟨cs,rfl,hc⟩,⟨ba (bU (cC cs)),ba cs,mZ _,mZ _,nz hu,ho,(decide_eq_true heq).symm⟩,be rfl ⟨⟨cC cs,rfl,k2,by omega,rfl⟩,⟨cs,rfl,hc⟩, ?_⟩⟩⟩)
  ·obtain rfl:=List.mem_singleton.1 hp
   exact bq (Er k2 k1 (Ci cs) (xO cs))
  ·rw [rq,mZ,cD,cD,hpm.length_eq]
   exact be (decide_eq_true rfl) ⟨rfl,rfl⟩
end
section
open Go.ChangeShapes Go.WideShapes Go.ChangeAt Go.RowKit Go.Joins Go.Deep

section
variable {H:Type} {enc:TypeId × Value→H} {P:Program} {w:World} {base:Nat} {spare:Nat→Bool} {held:Bool}
end
end
section
open Go.ChangeShapes Go.WideShapes Go.ChangeAt Go.RowKit Go.Joins Go.Deep

theorem oR {α:Type} {k:Nat}:∀(l:List (List α)),(∀x∈l,x.length=k)→∀(j:Nat) u,l.flatten[j]?=some u→∃i c x,c<k∧j=i*k+c∧l[i]?=some x∧x[c]?=some u
 | [],_,j,u,h=>by simp at h
 | a::r,hz,j,u,h=>by
  have ha:=hz a (by simp)
  rw [List.flatten_cons] at h
  rcases Nat.lt_or_ge j a.length with hj | hj
  ·rw [List.getElem?_append_left hj] at h
   exact ⟨0,j,a,by omega,by omega,rfl,h⟩
  ·rw [List.getElem?_append_right hj] at h
   obtain ⟨i,c,x,h1,h2,h3,h4⟩:=oR r (fun x hx=>hz x (by simp [hx])) _ u h
   refine ⟨i+1,c,x,h1, ?_,by simpa using h3,h4⟩
   rw [Nat.add_mul];omega
section
variable {P:Program} {H:Type} {enc:TypeId × Value→H} {w:World} {base:Nat} {spare:Nat→Bool} {held:Bool}
end
end
section
open Go.ChangeShapes Go.WideShapes Go.ChangeAt Go.RowKit Go.Joins Go.Deep

inductive SH where
 | int (k:IntKind)
 | bool
 | str
 | slice (es:List SH)
mutual
def SH.Fits:SH→TV→Prop
 | .int k,x=>∃z,x= .val (.int k z)∧(Lit.int k z).wf=true
 | .bool,x=>∃b,x= .val (.bool b)
 | .str,x=>∃s:ByteArray,x= .val (.string s)∧s.size≤maxLen
 | .slice es,x=>∃l:List (List TV),x= .vec es.length l .none∧l.length≤maxLen∧∀e∈l,dw es e
def dw:List SH→List TV→Prop
 | [], []=>True
 | s::ss,x::xs=>s.Fits x∧dw ss xs
 | _,_=>False
end
theorem rP:∀{ss:List SH} {xs:List TV},dw ss xs→xs.length=ss.length
 | [], [],_=>rfl
 | [],_::_,h=>by simp [dw] at h
 | _::_, [],h=>by simp [dw] at h
 | s::ss,x::xs,h=>by
  simp only [dw] at h
  simp [rP h.2]
theorem c7 {s:SH} {ss:List SH} {xs:List TV} (h:dw (s::ss) xs):∃x r,xs=x::r∧s.Fits x∧dw ss r:=by
 cases xs with
 | nil=>simp [dw] at h
 | cons x r=>simp only [dw] at h;exact ⟨x,r,rfl,h⟩
theorem rQ {xs:List TV} (h:dw [] xs):xs= []:=by
 cases xs with
 | nil=>rfl
 | cons x r=>simp [dw] at h
theorem gN {k:IntKind} {x:TV} (h:SH.Fits (.int k) x):∃z,x= .val (.int k z)∧(Lit.int k z).wf=true:=by simpa [SH.Fits] using h
theorem rR {x:TV} (h:SH.Fits .bool x):∃b,x= .val (.bool b):=by simpa [SH.Fits] using h
theorem qc {es:List SH} {x:TV} (h:SH.Fits (.slice es) x):∃l:List (List TV),x= .vec es.length l .none∧l.length≤maxLen∧∀e∈l,dw es e:=by simpa [SH.Fits] using h
def qd (f:TypeId→Option SH):List TypeId→Option (List SH)
 | []=>some []
 | t::r=>match f t,qd f r with
  | some s,some l=>some (s::l)
  | _,_=>none
theorem wo {f:TypeId→Option SH}:∀{ts:List TypeId} {ss:List SH},qd f ts=some ss→ss.length=ts.length
 | [],ss,h=>by simp [qd] at h;subst h;rfl
 | t::r,ss,h=>by
  simp only [qd] at h
  split at h
  ·rename_i s l h1 h2
   injection h with h;subst h
   simp [wo h2]
  ·cases h
def uF (P:Program):Nat→TypeId→Option SH
 | 0,_=>none
 | n+1,t=>match P.underlying t with
  | some (.int k)=>some (.int k)
  | some .bool=>some .bool
  | some .string=>some .str
  | some (.slice e)=>match kA P n e with
   | some ts=>bif Nat.beq (P.cellsOf e) ts.length&&Nat.ble 1 ts.length then (qd (uF P n) ts).map .slice else none
   | none=>none
  | _=>none
section
variable {P:Program} {H:Type} {enc:TypeId × Value→H} {w:World} {base:Nat} {held:Bool}
abbrev uG (enc:TypeId × Value→H) (P:Program) (w:World) (base:Nat) (held:Bool) (t:TypeId) (sh:SH):Prop:=∀u m y,DataW.trod enc P w base (fun _=>true) held m t [u]=some y→u.oneCell' =true∧∃x,VR (lu w) w x u∧sh.Fits x
theorem uH {f:TypeId→Option SH} (hf:∀t sh,f t=some sh→uG enc P w base held t sh):∀(ts:List TypeId) (ss:List SH) (cs:List Value),qd f ts=some ss→cs.length=ts.length→
  (∀(j:Nat) t',ts[j]?=some t' →∃u m y,cs[j]?=some u∧DataW.trod enc P w base (fun _=>true) held m t' [u]=some y)→(∀u∈cs,u.oneCell' =true)∧∃xs,VRs (lu w) w xs cs∧dw ss xs
 | [],ss,cs,h,hl,_=>by
  simp [qd] at h;subst h
  have:=List.eq_nil_of_length_eq_zero hl
  subst this
  exact ⟨by simp, [],VRs.nil _ _,trivial⟩
 | t::r,ss, [],h,hl,_=>by simp at hl
 | t::r,ss,c::cs,h,hl,hj=>by
  simp only [qd] at h
  split at h
  ·rename_i s l h1 h2
   injection h with h;subst h
   obtain ⟨u,m,y,k1,k2⟩:=hj 0 t rfl
   simp at k1;subst k1
   obtain ⟨a1,x,a2,a3⟩:=hf t s h1 _ m y k2
   obtain ⟨b1,xs,b2,b3⟩:=uH hf r l cs h2 (by simpa using hl) fun j t' ht' =>by
    obtain ⟨u,m,y,k1,k2⟩:=hj (j+1) t' (by simpa using ht')
    exact ⟨u,m,y,by simpa using k1,k2⟩
   refine ⟨fun u hu=> ?_,x::xs,VRs.cons a2 b2,a3,b3⟩
   rcases List.mem_cons.1 hu with rfl | hu
   ·exact a1
   ·exact b1 u hu
  ·cases h
theorem qe {e:TypeId} {n:Nat} {ts:List TypeId} {f:TypeId→Option SH} {ss:List SH} (hf:∀t sh,f t=some sh→uG enc P w base held t sh) (hts:kA P n e=some ts) (hss:qd f ts=some ss):
    ∀(rows:List (List Value)),(∀x∈rows,x.length=ts.length∧∃m y,DataW.trod enc P w base (fun _=>true) held m e x=some y)→
      (∀u∈rows.flatten,u.oneCell' =true)∧∃l:List (List TV),l.length=rows.length∧VRs (lu w) w l.flatten rows.flatten∧∀x∈l,dw ss x
  | [],_=>⟨by simp, [],rfl,VRs.nil _ _,by simp⟩
  | r::rows,h=>by
    obtain ⟨h1,m,y,h2⟩:=h r List.mem_cons_self
    obtain ⟨a1,xs,a2,a3⟩:=uH hf ts ss r hss h1 (rp n m e ts r y hts h1 h2)
    obtain ⟨b1,l,b2,b3,b4⟩:=qe hf hts hss rows fun x hx=>h x (List.mem_cons_of_mem _ hx)
    refine ⟨fun u hu=> ?_,xs::l,by simp [b2],by rw [List.flatten_cons,List.flatten_cons];exact a2.app b3,fun x hx=> ?_⟩
    · rw [List.flatten_cons] at hu
      rcases List.mem_append.1 hu with hu | hu
      · exact a1 u hu
      · exact b1 u hu
    · rcases List.mem_cons.1 hx with rfl | hx
      · exact a3
      · exact b4 x hx
theorem rS:∀(n:Nat) (t:TypeId) (sh:SH),uF P n t=some sh→uG enc P w base held t sh
  | 0,_,_,h=>by simp [uF] at h
  | n+1,t,sh,h=>by
    intro u m y hy
    simp only [uF] at h
    split at h
    · rename_i k hk
      injection h with h;subst h
      obtain ⟨z,rfl,wz⟩:=A9 hk hy
      exact ⟨rfl,_, .val _,z,rfl,wz⟩
    · rename_i hk
      injection h with h;subst h
      obtain ⟨b,e,_⟩:=DataW.trod_bool hk hy
      injection e with e;subst e
      exact ⟨rfl,_, .val _,b,rfl⟩
    · rename_i hk
      injection h with h;subst h
      obtain ⟨s,e,_,hs⟩:=DataW.trod_string hk hy
      injection e with e;subst e
      exact ⟨rfl,_, .val _,s,rfl,hs⟩
    · rename_i e ht
      split at h
      · rename_i ts hts
        cases hb:(Nat.beq (P.cellsOf e) ts.length&&Nat.ble 1 ts.length) with
        | false=>rw [hb] at h;cases h
        | true=>
          rw [hb] at h
          simp only [Bool.and_eq_true] at hb
          have hk:=Nat.eq_of_beq_eq_true hb.1
          have hpos:=Nat.le_of_ble_eq_true hb.2
          simp only [cond_true,Option.map_eq_some_iff] at h
          obtain ⟨ss,hss,rfl⟩:=h
          have hsl:=wo hss
          rcases open_slice ht hy with ⟨hcs,_⟩ | ⟨a,len,cap,m',n',D,Pl,hcs,hbb,hl,hm,hmm,hx,hall⟩
          · injection hcs with hcs;subst hcs
            exact ⟨rfl, .vec ss.length [] .none, .nil trivial, [],rfl,Nat.zero_le _,by simp⟩
          · injection hcs with hcs;subst hcs
            simp only [if_true] at hmm
            subst hmm
            rw [hk] at hall
            obtain ⟨b,o,sp⟩:=a
            rcases Nat.eq_zero_or_pos m' with hc0 | hc0
            · subst hc0
              have:len=0:=by omega
              subst this
              exact ⟨rfl, .vec ss.length [] .none, .odd _ trivial, [],rfl,Nat.zero_le _,by simp⟩
            · have hsp:sp=none:=by
                obtain ⟨cs',h1,_⟩:=hall 0 hc0
                obtain ⟨_,h3,h4⟩:=World.cells?_some h1
                have h5:=h4 0 hpos
                rw [List.getElem?_eq_getElem (by omega)] at h5
                cases sp with
                | none=>rfl
                | some s=>simp [World.cell?,Addr.add] at h5;split at h5<;>cases h5
              subst hsp
              obtain ⟨V,hV⟩:=choose_lt (α:=List Value) (p:=fun i cs' =>w.cells? base ((⟨b,o,none⟩:Addr).add (i*ts.length)) ts.length=some cs' ∧DataW.trod enc P w base (fun _=>true) held n' e cs' =some (D i,Pl i)) (fun i hi=>hall i hi)
              have each:∀i,i<len→(V i).length=ts.length∧(∀c,c<ts.length→w.cell? ⟨b,o+(i*ts.length+c),none⟩=(V i)[c]?)∧∃y,DataW.trod enc P w base (fun _=>true) held n' e (V i)=some y:=fun i hi=>by
                obtain ⟨h1,h2⟩:=hV i (by omega)
                obtain ⟨_,h3,h4⟩:=World.cells?_some h1
                refine ⟨h3,fun c hc=> ?_,_,h2⟩
                rw [←h4 c hc]
                congr 1
                simp [Addr.add_none,Nat.add_assoc]
              have at1:∀(i:Nat) x,((List.range len).map V)[i]?=some x→i<len∧x=V i:=fun i x hx=>by
                rw [List.getElem?_map] at hx
                rcases Nat.lt_or_ge i len with hi | hi
                · rw [List.getElem?_range hi] at hx
                  injection hx with hx
                  exact ⟨hi,hx.symm⟩
                · rw [List.getElem?_eq_none (by simpa using hi)] at hx;cases hx
              have hz:∀x∈(List.range len).map V,x.length=ts.length:=fun x hx=>by
                obtain ⟨i,hi,rfl⟩:=List.mem_map.1 hx
                exact (each i (List.mem_range.1 hi)).1
              obtain ⟨k1,l,k2,k3,k4⟩:=qe (fun t sh h=>rS n t sh h) hts hss ((List.range len).map V) fun x hx=>by
                obtain ⟨i,hi,rfl⟩:=List.mem_map.1 hx
                obtain ⟨e1,_,y,e3⟩:=each i (List.mem_range.1 hi)
                exact ⟨e1,n',y,e3⟩
              have hlen:l.length=len:=by rw [k2];simp
              refine ⟨rfl, .vec ss.length l .none, ?_,l,rfl,by omega,k4⟩
              refine .mk_vec hlen.symm hl hm (fun x hx=>rP (k4 x hx)) trivial k3 (fun j hj=> ?_) (fun j u hu=> ?_) k1
              · rw [←k3.1] at hj
                obtain ⟨i,c,x,h1,h2,h3,h4⟩:=oR _ hz j _ (List.getElem?_eq_getElem hj)
                obtain ⟨hi,rfl⟩:=at1 i x h3
                show (w.cell? ⟨b,o+j,none⟩).isSome=true
                rw [h2,(each i hi).2.1 c h1,h4];rfl
              · obtain ⟨i,c,x,h1,h2,h3,h4⟩:=oR _ hz j u hu
                obtain ⟨hi,rfl⟩:=at1 i x h3
                rw [h2,(each i hi).2.1 c h1,h4]
      · cases h
    · cases h
theorem xQ {m:Nat} {t:TypeId} {sh:SH} {r:Reach} {b0:Nat} {v:Value} {d:DataW H} {p:List MemPlace} (hs:uF P m t=some sh)
  (hv:Value.okWide P w r b0 t v) (h:DataW.Trod enc P w base (fun _=>true) held t v d p):∃x,VR (lu w) w x v∧sh.Fits x:=by
 have hc:v.cells.toList= [v]:=by
  cases m with
  | zero=>simp [uF] at hs
  | succ m=>
   simp only [uF] at hs
   unfold Value.okWide at hv
   split at hs
   ·rename_i k hk
    rw [hk] at hv
    simp only [Cell.okWide,hk] at hv
    cases v<;>simp [Cell.ok,hk] at hv<;>rfl
   ·rename_i hk
    rw [hk] at hv
    simp only [Cell.okWide,hk] at hv
    cases v<;>simp [Cell.ok,hk] at hv<;>rfl
   ·rename_i hk
    rw [hk] at hv
    simp only [Cell.okWide,hk] at hv
    cases v<;>simp [Cell.ok,hk] at hv<;>rfl
   ·rename_i e hk
    obtain ⟨qq,n,c,rfl⟩:=okWide_slice hk (by unfold Value.okWide;exact hv)
    rfl
   ·cases hs
 obtain ⟨fuel,hf⟩:=h
 rw [hc] at hf
 exact (rS m t sh hs v fuel _ hf).2
end
end
section
open Go.RowKit Go.Deep Go.WideShapes Go.ChangeAt

theorem xR {α:Type} (f:α→List TV) (Q:α→Prop):∀(l:List (List TV)),(∀e∈l,∃a,e=f a∧Q a)→∃al:List α,l=al.map f∧∀a∈al,Q a
 | [],_=>⟨[],rfl,fun _ h=>by cases h⟩
 | e::l,h=>by
  obtain ⟨a,rfl,ha⟩:=h _ List.mem_cons_self
  obtain ⟨al,rfl,hs⟩:=xR f Q l fun e he=>h e (List.mem_cons_of_mem _ he)
  exact ⟨a::al,rfl,fun b hb=>by
   rcases List.mem_cons.1 hb with rfl | hb
   ·exact ha
   ·exact hs b hb⟩
theorem HP {z:Int} (h:(Lit.int .u32 z).wf=true):0≤z∧z<4294967296:=by
 simp [Lit.wf] at h
 have e0:IntKind.u32.min=0:=by decide
 have e1:IntKind.u32.max=4294967295:=by decide
 omega
theorem Et {l:List (List TV)} (h:∀e∈l,dw [.int .i64] e):∃ps,l=iV ps:=by
 obtain ⟨ps,h1,_⟩:=xR iT (fun _=>True) l fun e he=>by
  obtain ⟨x,r,rfl,h1,h2⟩:=c7 (h e he)
  obtain rfl:=rQ h2
  obtain ⟨a,rfl,_⟩:=gN h1
  exact ⟨a,rfl,trivial⟩
 exact ⟨ps,h1⟩
def GY:List SH:= [.int .u32, .int .i64, .int .i64, .slice [.int .i64], .int .u32, .int .i64, .bool, .bool]
theorem GZ {xs:List TV} (h:dw GY xs):∃t:Ch,xs=aj t∧uE t:=by
 obtain ⟨x1,r1,rfl,h1,g1⟩:=c7 h
 obtain ⟨x2,r2,rfl,h2,g2⟩:=c7 g1
 obtain ⟨x3,r3,rfl,h3,g3⟩:=c7 g2
 obtain ⟨x4,r4,rfl,h4,g4⟩:=c7 g3
 obtain ⟨x5,r5,rfl,h5,g5⟩:=c7 g4
 obtain ⟨x6,r6,rfl,h6,g6⟩:=c7 g5
 obtain ⟨x7,r7,rfl,h7,g7⟩:=c7 g6
 obtain ⟨x8,r8,rfl,h8,g8⟩:=c7 g7
 obtain rfl:=rQ g8
 obtain ⟨a,rfl,_⟩:=gN h1
 obtain ⟨n,rfl,_⟩:=gN h2
 obtain ⟨o,rfl,_⟩:=gN h3
 obtain ⟨p,rfl,lp,hp⟩:=qc h4
 obtain ⟨j,rfl,wj⟩:=gN h5
 obtain ⟨m,rfl,_⟩:=gN h6
 obtain ⟨hm,rfl⟩:=rR h7
 obtain ⟨g,rfl⟩:=rR h8
 obtain ⟨p,rfl⟩:=Et hp
 have e:(iV p).length=p.length:=List.length_map _
 rw [e] at lp
 exact ⟨((a,n),⟨o,p,j,m,hm⟩,g),rfl,Nat.le_trans lp (by unfold maxLen;decide),HP wj⟩
theorem xS {H:Type} {enc:TypeId × Value→H} {w:World} {b0 base:Nat} {held:Bool} {v:Value} {d:DataW H} {p:List MemPlace}
  (hv:Value.okWide Try.prog w .any b0 48 v) (h:DataW.Trod enc Try.prog w base (fun _=>true) held 48 v d p):∃l:List Ch,VR (lu w) w (.vec 8 (l.map aj) .none) v∧(∀t∈l,uE t)∧l.length≤9223372036854775807:=by
 obtain ⟨x,h1,h2⟩:=xQ (m:=9) (sh:= .slice GY) (by kernel_rfl) hv h
 obtain ⟨l,rfl,hl,hf⟩:=qc h2
 obtain ⟨l,rfl,ha⟩:=xR aj uE l fun e he=>GZ (hf e he)
 rw [List.length_map] at hl
 exact ⟨l,h1,ha,Nat.le_trans hl (by unfold maxLen;decide)⟩
theorem xT (l:List Ch) (ha:∀t∈l,uE t) (v:Value) (w:World) (hv:VR (lu w) w (.vec 8 (l.map aj) .none) v):Calls Try.prog 6 #[v] w fun e w' =>e= .returned (.bool true)∧Gr w w' :=
 VCx.top (us:= [v]) ((GX ha).mono fun x T' h=>by rw [h.1];unfold qD;first | rfl | trivial) w (VRs.cons hv (VRs.nil _ _))
end
section
open Go.ChangeShapes Go.WideShapes Go.ChangeAt Go.RowKit Go.Joins

theorem Eu:ownKnob Try.prog.godebug=none:=by kernel_rfl
theorem Cj:laidOutB Try.prog=true:=by kernel_rfl

end
section
open Go.ChangeShapes Go.WideShapes Go.ChangeAt Go.RowKit

theorem oS (os:Os) (started:os.Started) (H:Type) (enc:TypeId × Value→H):
    ReturnsInHanded {} Try.checked os 6 .any (Rows.packWholeSpec.pre6 enc Try.prog Try.f6 Rows.packWholeRow.domain false) (Rows.packWholeSpec.post enc Try.prog Try.f6 false true false false):=by
  refine returnsInHanded_of_change (C:=Try.checked) Eu started (by kernel_rfl) Try.func6
    (ChangeSpec.witness6 (enc:=enc) (C:=Try.checked) false ⟨#[], #[.slice none 0 0], []⟩ 8 (by kernel_rfl) (by kernel_rfl) (by kernel_rfl) (by kernel_rfl)) ?_
  intro W base args ds gs before hval0 hW hcnd _
  have hval:∀(j:Nat) t v,Try.f6.params[j]?=some t→args[j]?=some v→Value.okWide Try.prog W .any base t v:=hval0
  have hW' :=hW
  obtain ⟨p,q,hA0,hV,rfl,hfz,hnd⟩:=hW
  have hA:DataW.TrodAll enc Try.prog W 0 (fun _=>true) true Try.f6.params.toList args.toList ds p:=hA0
  rw [Try.params6] at hA hval
  obtain ⟨v0,vs0,d0,ds0,p0,q0,hargs,rfl,rfl,h0,r0⟩:=trodAll_cons hA
  obtain ⟨rfl,rfl,rfl⟩:=trodAll_nil r0
  obtain rfl:args= #[v0]:=by cases args;simp_all
  obtain ⟨rfl,rfl⟩:=trodVars_none hV
  have lt0:∀x∈p0,x.block<W.heap.size:=by obtain ⟨m,hm⟩:=h0;exact DataW.trod_lt m _ _ _ hm
  obtain ⟨l0,l0vr,l0a,l0b⟩:=xS (hval 0 48 v0 rfl rfl) h0
  clear hA0 hval0
  refine (xT l0 l0a _ W l0vr).mono fun e W' ⟨he,bel⟩=> ?_
  subst he
  exact ⟨_,rfl,_,_,_, [],_, [],hW',trodAll_mk1 (shut_bool Try.underlying4 _),(trodAll_cons_mk (Below.trod Cj (by kernel_rfl) (of_decide_eq_true (by kernel_rfl)) h0 bel lt0) trodAll_mk0),rfl,Below.frame bel _,fun h=>by cases h⟩

theorem packWhole_holds:Rows.PackWholeSaid:=
  OpenClaim.holds_of_wide 6 Try.f6 rfl rfl rfl rfl rfl rfl rfl ⟨rfl,rfl,rfl,rfl,rfl⟩ rfl rfl rfl rfl rfl (by kernel_rfl) Try.func6 (by kernel_rfl)
    (of_decide_eq_true (by kernel_rfl)) (by unfold Func.isWrapper;first | (rw [if_pos (by decide+kernel)];kernel_rfl) | (rw [if_neg (by decide+kernel)];exact ⟨rfl,rfl⟩))
    (fun os started H enc _=>oS os started H enc)
#print axioms packWhole_holds
end

end Go.Proofs.Ytnfplefcghadfaa