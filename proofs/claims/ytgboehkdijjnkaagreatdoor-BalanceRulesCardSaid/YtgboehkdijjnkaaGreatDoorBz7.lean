/-Part 7 of the proof of balanceRulesCard_holds:SbRC,SbRD,MdE ... No condition. -/
import Derived.Test.YtgboehkdijjnkaaGreatDoorBz1
import Derived.Test.YtgboehkdijjnkaaGreatDoorBz2
import Derived.Test.YtgboehkdijjnkaaGreatDoorBz3
import Derived.Test.YtgboehkdijjnkaaGreatDoorBz4
import Derived.Test.YtgboehkdijjnkaaGreatDoorBz5
import Derived.Test.YtgboehkdijjnkaaGreatDoorBz6
set_option maxRecDepth 100000
set_option maxRecDepth 100000
namespace Go.Proofs.YtgboehkdijjnkaaGreatDoor
open Go.RowKit
open _root_.Function (comp)
open _root_.Int (natCast_nonneg tmod toNat_natCast)
open Go.IntKind (i64 u64 wrap)
open _root_.List (append_assoc append_nil ext_getElem? getElem?_eq_getElem getElem?_eq_none getElem?_map getElem?_range getElem?_take length length_append length_cons length_drop length_map length_nil length_range length_take map_append map_cons map_nil map_take mem_cons mem_map mem_range mem_singleton nodup_nil nodup_range not_mem_nil take_left' take_zero)
open _root_.Nat (beq le_refl lt_irrefl lt_or_ge not_lt_zero zero_le)
open _root_.Option (getD_some isSome_some map_some)
open _root_.Prod (fst snd)
open Go.Proofs.Tryz (prog underlying78)
section
open Go.RowKit Go.Maps Go.Sort
theorem lv (f g:Nat→Option Nat):∀l:List Rw,bT f g (l.map aX)=l.map aX
 |[]=>rfl
 |a::l=>by simp only [map_cons,bT,lv f g l];rfl
theorem sZ (f g:Nat→Option Nat)(l:List Rw):VO.ren f g (mO (l.map aX))=mO (l.map aX):=by
 simp only [mO,VO.ren,ay,TV.ren,lv,Tok.ren]
theorem iA:∃inf:TypeInfo,prog.info? 140=some inf∧inf.size=5∧inf.bytes+1≤1000∧inf.zero=some (.agg #[.int .i64 0,.int .u32 0,.int .i64 0,.int .i64 0,.int .i64 0]):=
 ⟨(prog.info? 140).getD default,by kernel_rfl,by kernel_rfl,Nat.le_of_ble_eq_true (by kernel_rfl),by kernel_rfl⟩
theorem vi {x i:Operand}{l:List (Nat × TV)}{L:List (List TV)}{tok:Tok}{k:IntKind}{z:Int}{e:List TV}(hx:au ae l x=.vec 5 L tok)(hz:au ae l i=.val (.int k z))(h0:0≤z)(he:L[z.toNat]?=some e):
  aI prog ae (.indexAddr 78 x i) l (.elt e):=by
 obtain ⟨inf,i_at,i_size,_,_⟩:=iA
 exact dH (inf:=inf) underlying78 i_at (by rw [i_size];exact hx) hz h0 he
theorem C7 {x i:Operand}{l:List (Nat × TV)}{es:List (List TV)}{tok:Tok}{k:IntKind}{z:Int}{n:Nat}(hx:au ae l x=.vec 5 es tok)(hz:au ae l i=.val (.int k z))(h0:0≤z)(hn:z.toNat=n)(he:n≤es.length):aI prog ae (.slice 78 x none (some i) none) l (.vec 5 (es.take n) .none):=by
 subst hn
 obtain ⟨inf,i1,i2,_,_⟩:=iA
 have h:=rl (inf:=inf) (P:=prog) (G:=ae) (x:=x) (i:=i) (l:=l) (es:=es) (tok:=tok) underlying78 i1 (by rw [i2];exact hx) hz h0 he
 rw [i2] at h
 exact h
theorem C8 {x i:Operand}{l:List (Nat × TV)}{es:List (List TV)}{tok:Tok}{k:IntKind}{z:Int}{n:Nat}(hx:au ae l x=.vec 5 es tok)(hz:au ae l i=.val (.int k z))(h0:0≤z)(hn:z.toNat=n)(he:n≤es.length):aI prog ae (.slice 78 x (some i) none none) l (.vec 5 (es.drop n) tok):=by
 subst hn
 obtain ⟨inf,i1,i2,_,_⟩:=iA
 have h:=rp (inf:=inf) (P:=prog) (G:=ae) (x:=x) (i:=i) (l:=l) (es:=es) (tok:=tok) underlying78 i1 (by rw [i2];exact hx) hz h0 he
 rw [i2] at h
 exact h
theorem pE {T T1:VT}{s x:Operand}{l:List (Nat × TV)}{es es2:List (List TV)}{k n:Nat}{bn:Bool}(hs:ct T 5 (au ae l s)=some (es,k,n,bn,T1))(hx:gv 5 (au ae l x)=some es2)(hb:es.length+es2.length≤3000):
    aN prog ae 0 T (.call ⟨.builtin .append,#[s,x],#[78,78]⟩) l (.vec 5 (es++es2) (.tail k (n+es2.length))) {T1 with tails:=T1.tails.set k (n+es2.length,5,bn)}:=by
  obtain ⟨inf,i1,i2,i3,i4⟩:=iA
  have h:=iw (inf:=inf) (P:=prog) (G:=ae) (ro:=0) (T:=T) (T1:=T1) (t:=78) (tx:=78) (s:=s) (x:=x) (l:=l) (es:=es) (es2:=es2) (k:=k) (n:=n) (bn:=bn) underlying78 i1 i4 (by rw [i2];rfl) (by rw [i2];decide) (by kernel_rfl) (by rw [i2];exact hs) (by rw [i2];exact hx)
    (by have h1:=i3
        have h2:=Nat.mul_le_mul hb h1
        omega)
  rw [i2] at h
  exact h
def jN (L:List Rw)(i:Int):Int:=match j5 L i with
 |some k=>k
 |none=>-1
theorem IT {L:List Rw}{i:Int}{j:Nat}{r:Rw}(h:L[j]?=some r)(hr:r.1.1=i)(hj:∀k r',k<j→L[k]?=some r'→r'.1.1≠i):j5 L i=some j:=by
 obtain ⟨hjl,h1⟩:=List.getElem?_eq_some_iff.1 h
 refine List.findIdx?_eq_some_iff_getElem.2 ⟨hjl,by simp [h1,hr],λk hk=> ?_⟩
 have:=hj k _ hk (getElem?_eq_getElem (by omega))
 simpa using this
theorem GV {L:List Rw}{i:Int}(hj:∀k r',k<L.length→L[k]?=some r'→r'.1.1≠i):j5 L i=none:=by
 refine List.findIdx?_eq_none_iff.2 λr hr=> ?_
 obtain ⟨k,hk,rfl⟩:=List.getElem_of_mem hr
 simpa using hj k _ hk (getElem?_eq_getElem hk)
theorem m8 (L:List Rw)(l:List VO):VT.keep (mL (L.map aX) l) 1 0=mL (L.map aX) []:=by
 have e1:=sZ (ai 1) (ai 0) L
 simp only [VT.keep,mL,List.take_succ_cons,take_zero,map_cons,map_nil,e1]
theorem IU (L:List Rw)(hl:L.length≤1000)(i:Int):VCx prog ae 0 jZ [.ptr 0 0,.val (.int .i64 i)] (mL (L.map aX) []) λx T'=>x=.val (.int .i64 (jN L i))∧T'=mL (L.map aX) []:=by
 have hloop:dS prog ae (KZ (L.map aX) i (jN L i) (j5 L i).isSome (av prog jZ 0)):=cn λp hp=>by
  obtain rfl:=mem_singleton.1 hp
  refine dy λK hK=> ?_
  let sl:Nat→List TV:=λj=>vh (L.map aX) i 0 j
  let Post:Exit→List TV→VT→Prop:=λe vs T=>(∃k:Nat,∃cs,j5 L i=some k∧e=.ret∧vs=vh (L.map aX) i k k∧T=mL (L.map aX) [.cells cs])∨(j5 L i=none∧e=.normal∧vs=sl L.length∧T=mL (L.map aX) [])
  refine fc (f:=jZ) (id:=0) (by kernel_rfl) 24 zv (λj=>L.length-j) sl (λ_=>mL (L.map aX) []) (λj=>j≤L.length∧∀k r',k<j→L[k]?=some r'→r'.1.1≠i) 1 0 (λ_ _=>⟨le_refl _,le_refl _⟩)
   Post (λj hj=> ?_) 0 ⟨zero_le _,λk _ hk=>absurd hk (not_lt_zero k)⟩ K (λe vs T hq=> ?_)
  ·obtain ⟨hj,hne⟩:=hj
   by_cases hlt:j<L.length
   ·have hs:L[j]?=some L[j]:=getElem?_eq_getElem hlt
    generalize L[j]=r at hs
    have hw:=fL j (by omega)
    refine cj ah ag aw ak (C3 (L.map aX) i 0 r.1.1 r.1.2.1 r.1.2.2 r.2.1 r.2.2 j _) ?_
    refine aL (decide_eq_true (by rw [length_map];omega)) ⟨vi rfl rfl (natCast_nonneg _) (by simp only [toNat_natCast];rw [getElem?_map,hs];rfl),?_⟩
    by_cases he:r.1.1=i
    ·refine aL (by rw [qL];exact decide_eq_true he) ⟨rfl,rfl,.inl ⟨j,_,IT hs he hne,rfl,rfl,rfl⟩⟩
    ·refine az (by rw [qL];exact decide_eq_false he) ⟨rfl,rfl,j+1,⟨hlt,λk r' hk hr=> ?_⟩,by simp only;omega,.inr ⟨m8 L _,?_⟩⟩
     ·rcases lt_or_ge k j with h | h
      ·exact hne k r' h hr
      ·obtain rfl:k=j:=by omega
       rw [hs] at hr;injection hr with hr;subst hr;exact he
     ·simp only [ay,TV.ren,lv,Tok.ren]
      simp only [sl,vh,hw]
   ·obtain rfl:j=L.length:=by omega
    refine cj ah ag aw ak (C3 (L.map aX) i 0 0 0 0 0 0 L.length _) ?_
    exact az (decide_eq_false (by rw [length_map];omega)) ⟨rfl,rfl,.inr ⟨GV hne,rfl,rfl,rfl⟩⟩
  ·rcases hq with ⟨k,cs,h1,rfl,rfl,rfl⟩ | ⟨h1,rfl,rfl,rfl⟩
   ·simp only [h1,isSome_some,cond_true,jN] at hK
    exact hK cs
   ·simp only [h1,Option.isSome_none,cond_false] at hK
    have e1:sl L.length=vh (L.map aX) i 0 (L.map aX).length:=by simp only [sl,length_map]
    rw [e1]
    exact hK
 refine VCx.keepQ 1 0 (le_refl _) (le_refl _) (an ah ag aw hloop (Kg (L.map aX) i (jN L i) (j5 L i).isSome _) ?_)
 refine ⟨rfl,⟨rfl,rfl,rfl,trivial,rfl,rfl,rfl⟩,?_⟩
 cases h:j5 L i with
 |none=>exact az rfl ⟨by simp only [jN,h];rfl,m8 L _⟩
 |some k=>exact aL rfl λcs=>⟨by simp only [jN,h];rfl,m8 L _⟩
theorem IV {f:FuncId}{ys0 ys1:List TV}{x0:TV}{L:List Rw}{k:Nat}(hy:ay (am [k]) (am []) ys0=ys1)(hx:∀f g,x0.ren f g=x0)(hv:VCx prog ae 0 f ys1 (mL (L.map aX) []) λx T'=>x=x0∧T'=mL (L.map aX) []){T:VT}(ho:T.objs[k]?=some (mO (L.map aX))){K:TV→VT→Prop}(hk:K x0 T):
  VCx prog ae 0 f ys0 T K:=by
 have hg:T.give [k] []=mL (L.map aX) []:=by
  have:=sZ (am [k]) (am []) L
  simp only [VT.give,map_cons,map_nil,ho,getD_some,this,mL]
 refine (VCx.lift (xs:=ys1) [k] [] bc (by simp) nodup_nil (λj hj=> ?_) (by simp) (λ_ _=>zero_le _) hy (by rw [hg];exact hv) (λx T' hq=> ?_)).mono ?_
 ·obtain rfl:=mem_singleton.1 hj;exact ⟨_,ho,rfl⟩
 ·rw [hq.2];exact ⟨le_refl 1,zero_le _⟩
 ·rintro x T' ⟨y,T2,⟨rfl,rfl⟩,rfl,rfl⟩
  have hb:T.back [k] [] (mL (L.map aX) [])=T:=by
   have:=sZ (aq T.objs.length [k]) (aq T.tails.length []) L
   simp only [VT.back,mL,map_cons,map_nil,this,aS,append_nil]
   have:T.objs.set k (mO (L.map aX))=T.objs:=by
    apply ext_getElem?
    intro j
    rw [List.getElem?_set]
    split
    ·rename_i h;subst h
     rw [if_pos (List.getElem?_eq_some_iff.1 ho).1,ho]
    ·rfl
   rw [this]
  rw [hb,hx]
  exact hk
theorem C9 (L:List Rw)(hl:L.length≤1000)(i:Int):∀ro ys T K,FD (L.map aX) i (jN L i) ro ys T K→VCx prog ae ro jZ ys T K:=by
 rintro ro ys T K ⟨⟨rfl,rfl,ho⟩,hk⟩
 exact IV (k:=0) rfl (λ_ _=>rfl) (IU L hl i) ho hk
theorem GW (L:List Rw)(hl:L.length≤1000)(i a c:Int):dS prog ae (K0 (L.map aX) i a c (kA L i) (av prog lr 1)):=cn λp hp=>by
 obtain rfl:=mem_singleton.1 hp
 refine dy λK hK=> ?_
 let sl:Nat→List TV:=λj=>C2 j
 let Post:Exit→List TV→VT→Prop:=λe vs T=>e=.normal∧vs=sl (kA L i)∧T=mL (L.map aX) [.cells (da i a c)]
 refine fc (f:=lr) (id:=1) (by kernel_rfl) 88 C1 (λj=>L.length-j) sl (λ_=>mL (L.map aX) [.cells (da i a c)]) (λj=>j≤L.length∧∀k r',k<j→L[k]?=some r'→r'.1.1<i) 2 0 (λ_ _=>⟨le_refl _,le_refl _⟩)
  Post (λj hj=> ?_) 0 ⟨zero_le _,λk _ hk=>absurd hk (not_lt_zero k)⟩ K (λe vs T hq=> ?_)
 ·obtain ⟨hj,hne⟩:=hj
  by_cases hlt:j<L.length
  ·have hs:L[j]?=some L[j]:=getElem?_eq_getElem hlt
   generalize L[j]=r at hs
   have hw:=fL j (by omega)
   refine cj ah ag aw ak (C4 (L.map aX) i a c r.1.1 r.1.2.1 r.1.2.2 r.2.1 r.2.2 j _) ?_
   refine aL (decide_eq_true (by rw [length_map];omega)) ⟨vi rfl rfl (natCast_nonneg _) (by simp only [toNat_natCast];rw [getElem?_map,hs];rfl),?_⟩
   by_cases he:r.1.1<i
   ·refine aL (decide_eq_true he) ⟨rfl,rfl,j+1,⟨hlt,λk r' hk hr=> ?_⟩,by simp only;omega,.inl ⟨rfl,?_⟩⟩
    ·rcases lt_or_ge k j with h | h
     ·exact hne k r' h hr
     ·obtain rfl:k=j:=by omega
      rw [hs] at hr;injection hr with hr;subst hr;exact he
    ·simp only [sl,C2,hw]
   ·exact az (decide_eq_false he) ⟨rfl,rfl,rfl,by simp only [sl];rw [GU hs hne he];rfl,rfl⟩
  ·obtain rfl:j=L.length:=by omega
   refine cj ah ag aw ak (C4 (L.map aX) i a c 0 0 0 0 0 L.length _) ?_
   exact az (decide_eq_false (by rw [length_map];omega)) ⟨rfl,rfl,rfl,by simp only [sl];rw [IS hne];rfl,rfl⟩
 ·obtain ⟨rfl,rfl,rfl⟩:=hq
  exact hK
theorem GX {S:List aO}{R:cN}(g:lu S R)(t:aO):VCx prog ae 0 lr [.ptr 0 0,.agg (da t.1 t.2.1 t.2.2)] ⟨[.cells [.vec 5 ((bk S R).map aX) .none]],[]⟩ λx T'=>∃z mz,x=.val (.int .i64 z)∧T'=⟨[.cells [mz]],[]⟩∧z=fv S t∧mz=.vec 5 ((bk (jI S t) R).map aX) .none:=by
 obtain ⟨i,a,c⟩:=t
 have hlen:=xX (S:=S) R
 have hfew:=g.few
 have hhas:=zy g.nd (R:=R) (i:=i)
 generalize hL:bk S R=L at*
 refine VCx.keepQ 1 0 (le_refl _) (le_refl _) (an ah ag (aJ λp hp=>by obtain rfl:=mem_singleton.1 hp;exact C9 L (by omega) i) (GW L (by omega) i a c) (Kh (L.map aX) i a c (jN L i) (kA L i) _) ?_)
 have same:∀(z:Int) (l:List VO),z=fv S (i,a,c)→z≠0→∃z' mz,TV.val (.int .i64 z)=.val (.int .i64 z')∧VT.keep ⟨.cells [.vec 5 (L.map aX) .none]::l,[]⟩ 1 0=⟨[.cells [mz]],[]⟩∧z'=fv S (i,a,c)∧mz=.vec 5 ((bk (jI S (i,a,c)) R).map aX) .none:=λz l hz h0=>by
  have hr:jI S (i,a,c)=S:=by
   unfold jI
   have:(fv S (i,a,c)==0)=false:=by rw [←hz,beq_eq_false_iff_ne];exact h0
   rw [this,cond_false]
  exact ⟨z,_,rfl,m8 L l,hz,by rw [hr,hL]⟩
 by_cases hc:0≤i∧i≤255∧a≠0∧0≤c∧c≤1000000
 ·have hc':=hc
  obtain ⟨c1,c2,c3,c4,c5⟩:=hc
  refine az (decide_eq_false (by omega)) (az (decide_eq_false (by omega)) (az (by rw [qL];exact decide_eq_false c3) (az (decide_eq_false (by omega)) (az (decide_eq_false (by omega)) ⟨⟨rfl,rfl,rfl⟩,?_⟩))))
  cases hf:j5 L i with
  |some k=>
   rw [hf] at hhas
   refine aL (decide_eq_true (by simp only [jN,hf];omega)) (same 13 _ ?_ (by decide))
   simp only [fv,←hhas,decide_eq_true hc',Bool.not_true,cond_false,isSome_some,cond_true]
  |none=>
   rw [hf] at hhas
   refine az (decide_eq_false (by simp only [jN,hf];omega)) ?_
   have hb:ez S i=false:=hhas.symm
   by_cases h8:8≤S.length
   ·refine aL (decide_eq_true (by rw [length_map];omega)) (same 6 _ ?_ (by decide))
    simp only [fv,hb,decide_eq_true hc',decide_eq_true h8,Bool.not_true,cond_false,cond_true]
   ·have ha:fv S (i,a,c)=0:=by simp only [fv,hb,decide_eq_true hc',decide_eq_false h8,Bool.not_true,cond_false]
    have hn:S.find? (λs=>s.1==i)=none:=by
     unfold ez at hb
     cases hf:S.find? λs=>s.1==i with
     |none=>rfl
     |some s=>rw [hf] at hb;cases hb
    have hr:jI S (i,a,c)=S++ [(i,a,c)]:=by simp [jI,ha]
    have hadd:=EN g (t:=(i,a,c)) hn
    rw [hL] at hadd
    have hkl:kA L i≤(L.map aX).length:=by rw [length_map];exact Ki L i
    have hm:(L.map aX).take (kA L i)++ [pC i a c 0 0]++(L.map aX).drop (kA L i)=(bk (S++ [(i,a,c)]) R).map aX:=by
     rw [hadd]
     simp only [map_append,map_take,List.map_drop,map_cons,map_nil]
     rfl
    have b1:((L.map aX).take (kA L i)).length≤8:=by rw [length_take,length_map];omega
    have b2:((L.map aX).drop (kA L i)).length≤8:=by rw [length_drop,length_map];omega
    refine az (decide_eq_false (by rw [length_map];omega)) ⟨rfl,⟨rfl,rfl,rfl,trivial,rfl,rfl,rfl⟩,C7 rfl rfl (natCast_nonneg _) (toNat_natCast _) hkl,C8 rfl rfl (natCast_nonneg _) (toNat_natCast _) hkl,?_,⟨rfl,rfl,rfl,trivial⟩,?_,⟨rfl,rfl,rfl,trivial⟩,?_,?_⟩
    ·have o:=pE (T:=mL (L.map aX) [.cells (da i a c)]) (T1:={mL (L.map aX) [.cells (da i a c)] with tails:= [(0,5,false)]}) (s:=.tmp 67) (x:=.tmp 73) (l:= [(67,.vec 5 [] .full),(73,.vec 5 ((L.map aX).take (kA L i)) .none)]) (es:= []) (es2:=(L.map aX).take (kA L i)) (k:=0) (n:=0) (bn:=false) rfl rfl (by simp only [length_nil];omega)
     simp only [Nat.zero_add] at o
     exact o
    ·exact pE (T:={mL (L.map aX) [.cells (da i a c)] with tails:= [(((L.map aX).take (kA L i)).length,5,false)]}) (T1:={mL (L.map aX) [.cells (da i a c)] with tails:= [(((L.map aX).take (kA L i)).length,5,false)]}) (es:=(L.map aX).take (kA L i)) (es2:= [pC i a c 0 0]) (k:=0) (n:=((L.map aX).take (kA L i)).length) (bn:=false) (by simp [au,dL,ct,mL]) rfl (by simp only [length_cons,length_nil];omega)
    ·exact pE (T:={mL (L.map aX) [.cells (da i a c)] with tails:= [(((L.map aX).take (kA L i)).length+1,5,false)]}) (T1:={mL (L.map aX) [.cells (da i a c)] with tails:= [(((L.map aX).take (kA L i)).length+1,5,false)]}) (es:=(L.map aX).take (kA L i)++ [pC i a c 0 0]) (es2:=(L.map aX).drop (kA L i)) (k:=0) (n:=((L.map aX).take (kA L i)).length+1) (bn:=false) (by simp [au,dL,ct,mL]) rfl (by simp only [length_append,length_cons,length_nil];omega)
    ·rw [hm]
     refine ⟨0,.vec 5 ((bk (S++ [(i,a,c)]) R).map aX) .none,rfl,?_,ha.symm,by rw [hr]⟩
     simp only [VT.keep,List.take_succ_cons,take_zero,map_cons,map_nil,VO.ren,ay,TV.ren,lv,Tok.ren,ai]
     rfl
 ·have ha:fv S (i,a,c)=2:=by simp only [fv,decide_eq_false hc,Bool.not_false,cond_true]
  by_cases c1:i<0
  ·exact aL (decide_eq_true c1) (same 2 _ ha.symm (by decide))
  ·refine az (decide_eq_false c1) ?_
   by_cases c2:i>255
   ·exact aL (decide_eq_true c2) (same 2 _ ha.symm (by decide))
   ·refine az (decide_eq_false c2) ?_
    by_cases c3:a=0
    ·exact aL (by rw [qL];exact decide_eq_true c3) (same 2 _ ha.symm (by decide))
    ·refine az (by rw [qL];exact decide_eq_false c3) ?_
     by_cases c4:c<0
     ·exact aL (decide_eq_true c4) (same 2 _ ha.symm (by decide))
     ·refine az (decide_eq_false c4) ?_
      by_cases c5:c>1000000
      ·exact aL (decide_eq_true c5) (same 2 _ ha.symm (by decide))
      ·exact absurd ⟨by omega,by omega,c3,by omega,by omega⟩ hc
end
set_option maxRecDepth 100000
section
open Go.RowKit Go.Maps Go.Sort
theorem zB (l:List Rw):∀e∈l.map aX,e.length=5:=λe he=>by obtain ⟨s,_,rfl⟩:=mem_map.1 he;rfl
theorem Da (c u:Int)(r:Rw):∀(m:List Rw) (k:Nat),m[k]?=some r→aU (aU (m.map aX).flatten (k*5+3) [.val (.int .i64 c)]) (k*5+4) [.val (.int .i64 u)]=((m.set k (r.1,(c,u))).map aX).flatten
 |[],k,h=>by simp at h
 |b::l,0,h=>by
  simp at h;subst h
  rfl
 |b::l,k+1,h=>by
  have ih:=Da c u r l k (by simpa using h)
  have e1:(k+1)*5+3=(k*5+3)+5:=by omega
  have e2:(k+1)*5+4=(k*5+4)+5:=by omega
  have h1:∀(l:List TV) (o:Nat) (x:TV),aU (aX b++l) (o+5) [x]=aX b++aU l o [x]:=λl o x=>by
   have e4:o+5+ [x].length=(o+ [x].length)+5:=Nat.add_right_comm _ _ _
   simp only [aU,aX,e4]
   first | done | rfl
  rw [e1,e2,List.set_cons_succ,map_cons,map_cons,List.flatten_cons,List.flatten_cons,h1,h1,ih]
theorem IW (L:List Rw)(hpos:0<L.length)(h:L.length≤8):aN prog ae 0 (mL (L.map aX) []) (.call ⟨.builtin .append,#[.tmp 32,.tmp 36],#[78,78]⟩) [(32,.vec 5 [] .full),(36,.vec 5 (L.map aX) .none)] (.row 5 1 0 (L.map aX).length) (mL (L.map aX) [.row (L.map aX).flatten]):=by
  obtain ⟨inf,i1,i2,i3,i4⟩:=iA
  match L,hpos,h with
  |b::r,_,h=>
    have a:=sH (inf:=inf) (P:=prog) (G:=ae) (ro:=0) (T:=mL ((b::r).map aX) []) (t:=78) (tx:=78) (s:=.tmp 32) (x:=.tmp 36) (l:= [(32,.vec 5 [] .full),(36,.vec 5 ((b::r).map aX) .none)]) (q0:=aX b) (qs:=r.map aX) (tok:=.none)
      underlying78 i1 i4 (by rw [i2];rfl) (by decide) (by kernel_rfl) (by rw [i2];rfl) (by rw [i2];rfl)
      (by have h2:=Nat.mul_le_mul (show (aX b::r.map aX).length≤8 by simpa using h) i3
          omega)
    rw [i2] at a
    exact a
theorem Db {x i:Operand}{n:Nat}{l:List (Nat × TV)}{k:Nat}{z:Int}(hx:au ae l x=.row 5 1 0 n)(hz:au ae l i=.val (.int .i64 z))(hzk:z=k)(h1:k<n):aI prog ae (.indexAddr 78 x i) l (.ptr 1 (k*5)):=by
 subst hzk
 obtain ⟨inf,i1,i2,i3,i4⟩:=iA
 have a:=o4 (inf:=inf) (P:=prog) (G:=ae) (x:=x) (i:=i) (l:=l) (id:=1) (off:=0) (n:=n) (k:=.i64) (z:=(k:Int)) underlying78 i1 (by rw [i2];exact hx) hz (natCast_nonneg _) (by omega)
 rw [i2] at a
 simpa using a
theorem Dc (cs:List TV)(o:Nat)(x:TV)(h:o+1≤cs.length):(aU cs o [x]).length=cs.length:=by
 simp only [aU,length_append,length_take,length_cons,length_nil,length_drop];omega
theorem GY {S:List aO}{R:cN}(g:lu S R)(i c u:Int):VCx prog ae 0 xS [.ptr 0 0,.val (.int .i64 i),.val (.int .i64 c),.val (.int .i64 u)] ⟨[.cells [.vec 5 ((bk S R).map aX) .none]],[]⟩ λx T'=>∃z mz,x=.val (.int .i64 z)∧T'=⟨[.cells [mz]],[]⟩∧z=gU S i c u∧mz=.vec 5 ((bk S (ld S R i c u)).map aX) .none:=by
 have hlen:=xX (S:=S) R
 have hfew:=g.few
 have hhas:=zy g.nd (R:=R) (i:=i)
 have hC:aT prog ae (aE [(jZ,FD ((bk S R).map aX) i (jN (bk S R) i))]):=aJ λp hp=>by obtain rfl:=mem_singleton.1 hp;exact C9 (bk S R) (by omega) i
 have same:∀(z:Int) (l:List VO),z=gU S i c u→z≠0→∃z' mz,TV.val (.int .i64 z)=.val (.int .i64 z')∧VT.keep ⟨.cells [.vec 5 ((bk S R).map aX) .none]::l,[]⟩ 1 0=⟨[.cells [mz]],[]⟩∧z'=gU S i c u∧mz=.vec 5 ((bk S (ld S R i c u)).map aX) .none:=λz l hz h0=>by
  have hr:ld S R i c u=R:=by
   unfold ld
   have:(gU S i c u==0)=false:=by rw [←hz,beq_eq_false_iff_ne];exact h0
   rw [this,cond_false]
  exact ⟨z,_,rfl,m8 _ l,hz,by rw [hr]⟩
 cases hf:j5 (bk S R) i with
 |none=>
  rw [hf] at hhas
  have hb:ez S i=false:=hhas.symm
  have ha:gU S i c u=7:=by simp [gU,hb]
  refine VCx.keepQ 1 0 (le_refl _) (le_refl _) (an ah ag hC ak (xT ((bk S R).map aX) i c u (jN (bk S R) i) 0 _) ?_)
  exact ⟨⟨rfl,rfl,rfl⟩,aL (decide_eq_true (by simp only [jN,hf];omega)) (same 7 _ ha.symm (by decide))⟩
 |some k=>
  rw [hf] at hhas
  have hb:ez S i=true:=hhas.symm
  have hfz:jN (bk S R) i=k:=by simp only [jN,hf]
  obtain ⟨r,hr,_,_⟩:=rE hf
  have hk:=(List.getElem?_eq_some_iff.1 hr).1
  by_cases hc:0≤c∧c≤1000000∧0≤u∧u≤1099511627776
  ·have ha:gU S i c u=0:=by simp [gU,hb,hc]
   have hrr:ld S R i c u=jY i (c,u) R:=by simp [ld,ha]
   have hput:=EO g hf hr (c,u)
   rw [hrr,hput,ha]
   generalize bk S R=L at*
   have hfl:(L.map aX).flatten.length=L.length*5:=by
    have:=bp (zB L)
    rwa [length_map] at this
   have hmul:(k+1)*5≤L.length*5:=Nat.mul_le_mul_right _ hk
   have hset:=Da c u r L k hr
   refine VCx.keepQ 1 0 (le_refl _) (le_refl _) (VCx.freezeCell (i:=0) (size:=5) (es:=(L.set k (r.1,(c,u))).map aX) (an ah ag hC ak (xT (L.map aX) i c u (jN L i) k _) ?_))
   obtain ⟨c1,c2,c3,c4⟩:=hc
   refine ⟨⟨rfl,rfl,rfl⟩,az (decide_eq_false (by rw [hfz];omega)) (az (decide_eq_false (by omega)) (az (decide_eq_false (by omega)) (az (decide_eq_false (by omega)) (az (decide_eq_false (by omega)) ⟨IW L (by omega) (by omega),Db rfl rfl hfz (by rw [length_map];exact hk),aI.mk (by kernel_rfl),
    k9 (cs:=(L.map aX).flatten) (new:= [.val (.int .i64 c)]) (off:=k*5+3) (id:=1) (inf:=(prog.info? 3).getD default) (by kernel_rfl) rfl rfl rfl (by kernel_rfl) (by rw [hfl];show k*5+3+1≤_;omega) rfl (zero_le _),
    Db rfl rfl hfz (by rw [length_map];exact hk),aI.mk (by kernel_rfl),
    k9 (cs:=aU (L.map aX).flatten (k*5+3) [.val (.int .i64 c)]) (new:= [.val (.int .i64 u)]) (off:=k*5+4) (id:=1) (inf:=(prog.info? 3).getD default) (by kernel_rfl) rfl rfl rfl (by kernel_rfl) (by rw [Dc _ _ _ (by rw [hfl];omega),hfl];show k*5+4+1≤_;omega) rfl (zero_le _),
    1,0,(L.map aX).length,rfl,?_,?_⟩))))⟩
   ·rw [hset]
    have hl:(L.map aX).length=((L.set k (r.1,(c,u))).map aX).length:=by simp
    rw [hl]
    exact kg rfl (zB _)
   ·refine ⟨0,.vec 5 ((L.set k (r.1,(c,u))).map aX) .none,rfl,?_,rfl,rfl⟩
    simp only [VT.kill,VT.keep,List.set_cons_succ,List.set_cons_zero,List.take_succ_cons,take_zero,map_cons,map_nil,VO.ren,ay,TV.ren,lv,Tok.ren]
  ·have ha:gU S i c u=2:=by simp only [gU,hb,Bool.not_true,cond_false,decide_eq_false hc]
   refine VCx.keepQ 1 0 (le_refl _) (le_refl _) (an ah ag hC ak (xT ((bk S R).map aX) i c u (jN (bk S R) i) 0 _) ?_)
   refine ⟨⟨rfl,rfl,rfl⟩,az (decide_eq_false (by rw [hfz];omega)) ?_⟩
   by_cases c1:c<0
   ·exact aL (decide_eq_true c1) (same 2 _ ha.symm (by decide))
   ·refine az (decide_eq_false c1) ?_
    by_cases c2:c>1000000
    ·exact aL (decide_eq_true c2) (same 2 _ ha.symm (by decide))
    ·refine az (decide_eq_false c2) ?_
     by_cases c3:u<0
     ·exact aL (decide_eq_true c3) (same 2 _ ha.symm (by decide))
     ·refine az (decide_eq_false c3) ?_
      by_cases c4:u>1099511627776
      ·exact aL (decide_eq_true c4) (same 2 _ ha.symm (by decide))
      ·exact absurd ⟨by omega,by omega,by omega,by omega⟩ hc
end
abbrev ej:=7
abbrev Dd:=23
abbrev De:=26
structure Wd where
 pc:Int
 B:Bs
 U:Bs
 D:Bs
 S:Bs
 C:Bs
 F:Bs
 W:Bs
def Wd.cells (w:Wd):List TV:= [.val (.int .i64 w.pc),.vec 3 w.B .none,.vec 1 w.U .none,.vec 1 w.D .none,.vec 3 w.S .none,.vec 1 w.C .none,.vec 5 w.F .none,.vec 1 w.W .none]
def t8:TV:=.val (.pointer none)
def bO:VO:=.cells [.ptr 6 0,.ptr 8 0,.ptr 11 0,.ptr 12 0,.ptr 13 0,.ptr 14 0]
def eW (o:Nat→VO)(w:Wd)(n:Int)(pm sm rm u q r:VO):Nat→VO:=λi=>match i with
 | 2=>.cells w.cells
 | 3=>.cells [t8,t8,t8,t8,t8,t8]
 | 7=>pm
 | 8=>.cells [.val (.int .i64 n),.map 7]
 | 9=>sm
 | 10=>rm
 | 11=>.cells [.map 9,.map 10]
 | 12=>u
 | 13=>q
 | 14=>r
 | 15=>bO
 |i=>o i
def zC:VO:=.cells [.val (.int .i64 0),.val (.int .u32 0),.val (.int .u32 0),.val (.int .i64 0),.val (.int .i64 0),.val (.int .i64 0),.val (.int .i64 0),.ptr 4 0,.ptr 4 0]
def de:VO:=.map kI (λ_=>none) [] 0
def iS (o:Nat→VO)(w:Wd)(n:Int)(pm sm rm u q r:VO):VT:=⟨cR (eW o w n pm sm rm u q r) zC (λ_=>none) [] 0 0 0 0,[]⟩
def nR:TV:=.val (.slice none 0 0)
def IX:VO:=.cells [.val (.int .i64 20),.val (.int .i64 100),.val (.int .i64 0),nR,.val (.int .i64 0),.val (.int .i64 0)]
def ub (n:Int)(l:Nat→List VO)(k:Nat):aZ:=λro ys T K=>(ro=0∧ys= [.val (.int .i64 n)])∧K (.ptr (T.objs.length+k) 0) {T with objs:=T.objs++l T.objs.length}
def FG (Pi:VO→Prop):aZ:=λro ys T K=>match ys,T.objs[8]?,T.objs[7]? with
 | .ptr 8 0:: .agg [.val (.int .i64 _),.val (.int .u32 _),.val (.int .i64 _)]:: [],some (VO.cells [.val (.int .i64 _),.map 7]),some m=>(ro=0∧Pi m)∧∀(e:Int) (m':VO),Pi m'→K (.val (.int .i64 e)) {T with objs:=T.objs.set 7 m' }
 |_,_,_=>aG 88 default ys
def vj (Pi:VO→Prop):aZ:=λro ys T K=>match ys,T.objs[8]?,T.objs[7]? with
 | .ptr 8 0:: .val (.int .i64 _):: .val (.bool _):: [],some (VO.cells [.val (.int .i64 _),.map 7]),some m=>(ro=0∧Pi m)∧∀(e:Int) (m':VO),Pi m'→K (.val (.int .i64 e)) {T with objs:=T.objs.set 7 m' }
 |_,_,_=>aG 88 default ys
def FH (Qi:VO→Prop):aZ:=λro ys T K=>match ys,T.objs[13]? with
 | .ptr 13 0:: .agg [.val (.int .i64 _),.val (.int .u32 _),.val (.int .i64 _)]:: [],some m=>(ro=0∧Qi m)∧∀(e:Int) (m':VO),Qi m'→K (.val (.int .i64 e)) {T with objs:=T.objs.set 13 m' }
 |_,_=>aG 89 default ys
def vk (Qi:VO→Prop):aZ:=λro ys T K=>match ys,T.objs[13]? with
 | .ptr 13 0:: .val (.int .i64 _):: .val (.bool _):: [],some m=>(ro=0∧Qi m)∧∀(e:Int) (m':VO),Qi m'→K (.val (.int .i64 e)) {T with objs:=T.objs.set 13 m' }
 |_,_=>aG 89 default ys
def FI (Si:VO→VO→Prop):aZ:=λro ys T K=>match ys,T.objs[11]?,T.objs[9]?,T.objs[10]? with
 | .ptr 11 0:: .agg [.val (.int .i64 _),.val (.int .u32 _),.val (.int .i64 _)]:: [],some (VO.cells [.map 9,.map 10]),some m,some k=>(ro=0∧Si m k)∧∀(e:Int) (m' k':VO),Si m' k'→K (.val (.int .i64 e)) {T with objs:=(T.objs.set 9 m').set 10 k' }
 |_,_,_,_=>aG 90 default ys
def FJ (Si:VO→VO→Prop):aZ:=λro ys T K=>match ys,T.objs[11]?,T.objs[9]?,T.objs[10]? with
 | .ptr 11 0:: .val (.int .i64 _):: .val (.int .i64 _):: .val (.int .i64 _):: [],some (VO.cells [.map 9,.map 10]),some m,some k=>(ro=0∧Si m k)∧∀(e:Int) (m' k':VO),Si m' k'→K (.val (.int .i64 e)) {T with objs:=(T.objs.set 9 m').set 10 k' }
 |_,_,_,_=>aG 90 default ys
def FL (Ri:VO→Prop):aZ:=λro ys T K=>match ys,T.objs[14]? with
 | .ptr 14 0:: .agg [.val (.int .i64 _),.val (.int .u32 _),.val (.int .i64 _)]:: [],some m=>(ro=0∧Ri m)∧∀(e:Int) (m':VO),Ri m'→K (.val (.int .i64 e)) {T with objs:=T.objs.set 14 m' }
 |_,_=>aG 91 default ys
def FN (Ri:VO→Prop):aZ:=λro ys T K=>match ys,T.objs[14]? with
 | .ptr 14 0:: .val (.int .i64 _):: .val (.int .i64 _):: .val (.int .i64 _):: [],some m=>(ro=0∧Ri m)∧∀(e:Int) (m':VO),Ri m'→K (.val (.int .i64 e)) {T with objs:=T.objs.set 14 m' }
 |_,_=>aG 91 default ys
def uU (Ui:VO→Prop):aZ:=λro ys T K=>match ys,T.objs[12]? with
 | .ptr 12 0:: .agg [.val (.int .i64 _),.val (.int .u32 _),.val (.int .u32 _),.val (.int .i64 _),.val (.int .i64 _)]:: .val (.int .i64 _):: .val (.int .i64 0):: [],some m=>(ro=0∧Ui m)∧∀(e:En) (q:Bool) (m':VO),Ui m'→K (.tup [.agg (aP e),.val (.bool q)]) {T with objs:=T.objs.set 12 m' }
 |_,_=>aG 92 default ys
def fU (o:Nat→VO)(z:VO)(f:Fl)(b:Int)(Pre:VT→Prop)(R1:VO→(Value→Option TV)→Es→(Nat→VO)→Prop)(R2:VO→(Value→Option TV)→Es→(Nat→VO)→VO→Prop):aZ:=λro ys T K=>(ro=0∧ys= [.ptr 6 0,.agg (bo f),.val (.int .i64 b),.val (.int .i64 0)]∧Pre T)∧
 (∀(en:En) (q:Bool) (rg:VO) (lk:Value→Option TV) (es:Es) (ck:Nat) (now came went:Int) (x:Nat→VO),R1 rg lk es x→K (.tup [.agg (aP en),.val (.bool q)]) (fy o rg lk es ck now came went x [z]))∧
 (∀(en:En) (q:Bool) (rg:VO) (lk:Value→Option TV) (es:Es) (ck:Nat) (now came went:Int) (x:Nat→VO) (b1 b2 b3 l:VO),R2 rg lk es x l→K (.tup [.agg (aP en),.val (.bool q)]) (fy o rg lk es ck now came went x [z,b1,b2,b3,l]))
def vl:List Nat:= [1,2,4,28,29,30]
def xY:List Nat:= [1,2,4,95,96,97]
def qS:List Nat:= [1,2,4,137,138,139]
def mV (k:Nat)(B:Bs)(j:Int):List TV:= [.ptr 2 0,.ptr 3 0,.ptr 15 0,.vec k B .none,.val (.int .i64 B.length),.val (.int .i64 j)]
def vI (n:Nat)(keys:List Nat)(vs0:List TV)(Pre:VT→Prop)(R:VT→KX→Prop):bH:=λrd ro σ T D K=>(rd=none∧ro=0∧D= []∧beq σ.length n=true∧pick keys σ=vs0∧Pre T)∧R T K
def IY (T:VT)(pm q u r:VO):VT:={T with objs:=(((T.objs.set 7 pm).set 13 q).set 12 u).set 14 r}
def IZ (T:VT)(sm rm r:VO):VT:={T with objs:=((T.objs.set 9 sm).set 10 rm).set 14 r}
def I0 (T:VT)(rg mp tb u:VO)(x:Nat→VO):VT:={T with objs:=((((T.objs.set 4 rg).set 5 mp).set 6 tb).set 12 u)++(ap x++ [])}
def K1 (o:Nat→VO)(w:Wd)(n:Int)(Pi Qi Ri Ui:VO→Prop)(Si:VO→VO→Prop)(Fi:VO→(Value→Option TV)→Es→(Nat→VO)→Prop)(P0 P2 P4:VT→Prop)(cA cB cC:Code):Nat→Option (bH × Code):=di [
 (0,vI 169 vl (mV 3 w.B 0) P0 λT K=>∀pm q u r,Pi pm→Qi q→Ui u→Ri r→K .normal (ax 169 vl (mV 3 w.B w.B.length)) (IY T pm q u r) [],cA),
 (2,vI 169 xY (mV 3 w.S 0) P2 λT K=>∀sm rm r,Si sm rm→Ri r→K .normal (ax 169 xY (mV 3 w.S w.S.length)) (IZ T sm rm r) [],cB),
 (4,vI 169 qS (mV 5 w.F 0) P4 λT K=>∀(rg u:VO) (lk:Value→Option TV) (es:Es) (ck:Nat) (now came went:Int) (x:Nat→VO),Fi rg lk es x→Ui u→K .normal (ax 169 qS (mV 5 w.F w.F.length)) (I0 T rg (.map kF lk es ck) (l7 now came went) u x) [],cC)]
def Df (n:Int):Nat→List VO:=λk=> [de,.cells [.val (.int .i64 n),.map k]]
def Dg (n:Int):Nat→List VO:=λ_=> [.cells [.val (.int .i64 n),nR]]
theorem Kj (o:Nat→VO)(w:Wd)(n:Int)(Pi Qi Ri Ui:VO→Prop)(Si:VO→VO→Prop)(Fi:VO→(Value→Option TV)→Es→(Nat→VO)→Prop)(P0 P2 P4:VT→Prop)(Q:TV→VT→Prop):aK prog ae (aE [(Dd,ub n (Df n) 1),(De,ub n (Dg n) 0)]) (bw [(999998,.dead,none),(16,.val (.int .i64 n),none)]) 300 (K1 o w n Pi Qi Ri Ui Si Fi P0 P2 P4 (av prog ej 0) (av prog ej 2) (av prog ej 4)) 0 ej [.agg w.cells] ⟨[o 0,o 1],[]⟩ Q=
 (aI prog (λ_=>.none) (.binOp .add 3 (.const (.int .i64 1)) (.tmp 15) 3) [(15,(ar (wrap i64 (tmod (wrap u64 (Wd.pc w)) (100:Int)))))] (ar n)∧
 (((@Eq (Nat) 0 0)∧
 (@Eq (List TV) [(ar n)] [(ar n)]))∧
 (((@Eq (Nat) 0 0)∧
 (@Eq (List TV) [(ar n)] [(ar n)]))∧
 ((av prog ej (0:Nat)=av prog ej (0:Nat))∧
 (((@Eq (Option Nat) .none .none)∧
 ((@Eq (Nat) 0 0)∧
 ((@Eq (List Nat) [] [])∧
 ((@Eq (Bool) true true)∧
 ((@Eq (List TV) (AJ (Wd.B w) (↑(length (Wd.B w)):Int)) (AJ (Wd.B w) (↑(length (Wd.B w)):Int)))∧
 P0 ⟨[o (0:Nat),o (1:Nat),(dZ (Wd.pc w) (Wd.B w) (Wd.U w) (Wd.D w) (Wd.S w) (Wd.C w) (Wd.F w) (Wd.W w)),(.cells [(.val (.pointer .none)),(.val (.pointer .none)),(.val (.pointer .none)),(.val (.pointer .none)),(.val (.pointer .none)),(.val (.pointer .none))]),D7,(.map ⟨true,[(.int .i64),(.int .u32),(.int .u32),(.int .i64),(.int .i64)]⟩ (λ_=>.none) [] 0),(Ea (.map 5)),(.map ⟨false,[(.int .i64)]⟩ (λ_=>.none) [] 0),(dT n (.map 7)),(.map ⟨false,[(.int .i64)]⟩ (λ_=>.none) [] 0),(.map ⟨false,[(.int .i64)]⟩ (λ_=>.none) [] 0),(ce (.map 9) (.map 10)),(.cells [D8,D9,bB,dU,bB,bB]),(.cells [(ar n),dU]),(.cells [dU]),Eb],[]⟩)))))∧
 (∀pm:VO,(∀q:VO,(∀u:VO,(∀r:VO,(Pi (pm)→(Qi (q)→(Ui (u)→(Ri (r)→((av prog ej (2:Nat)=av prog ej (2:Nat))∧
 (((@Eq (Option Nat) .none .none)∧
 ((@Eq (Nat) 0 0)∧
 ((@Eq (List Nat) [] [])∧
 ((@Eq (Bool) true true)∧
 ((@Eq (List TV) (AJ (Wd.S w) (↑(length (Wd.S w)):Int)) (AJ (Wd.S w) (↑(length (Wd.S w)):Int)))∧
 P2 (AI (o (0:Nat)) (o (1:Nat)) (Wd.pc w) (Wd.B w) (Wd.U w) (Wd.D w) (Wd.S w) (Wd.C w) (Wd.F w) (Wd.W w) (.val (.pointer .none)) (.val (.pointer .none)) (.val (.pointer .none)) (.val (.pointer .none)) (.val (.pointer .none)) (.val (.pointer .none)) (.map ⟨true,[(.int .i64),(.int .u32),(.int .u32),(.int .i64),(.int .i64)]⟩ (λ_=>.none) [] 0) (.map 5) pm n (.map 7) (.map ⟨false,[(.int .i64)]⟩ (λ_=>.none) [] 0) (.map ⟨false,[(.int .i64)]⟩ (λ_=>.none) [] 0) (.map 9) (.map 10) u q r))))))∧
 (∀sm:VO,(∀rm:VO,(∀r_23:VO,(Si (sm) (rm)→(Ri (r_23)→((av prog ej (4:Nat)=av prog ej (4:Nat))∧
 (((@Eq (Option Nat) .none .none)∧
 ((@Eq (Nat) 0 0)∧
 ((@Eq (List Nat) [] [])∧
 ((@Eq (Bool) true true)∧
 ((@Eq (List TV) [jV,(.ptr 3 0),(.ptr 15 0),(.vec 5 (Wd.F w) .none),(ar (↑(length (Wd.F w)):Int)),bB] [jV,(.ptr 3 0),(.ptr 15 0),(.vec 5 (Wd.F w) .none),(ar (↑(length (Wd.F w)):Int)),bB])∧
 P4 (AI (o (0:Nat)) (o (1:Nat)) (Wd.pc w) (Wd.B w) (Wd.U w) (Wd.D w) (Wd.S w) (Wd.C w) (Wd.F w) (Wd.W w) (.val (.pointer .none)) (.val (.pointer .none)) (.val (.pointer .none)) (.val (.pointer .none)) (.val (.pointer .none)) (.val (.pointer .none)) (.map ⟨true,[(.int .i64),(.int .u32),(.int .u32),(.int .i64),(.int .i64)]⟩ (λ_=>.none) [] 0) (.map 5) pm n (.map 7) sm rm (.map 9) (.map 10) u q r_23))))))∧
 (∀rg:VO,(∀u_27:VO,(∀lk:Value→Option TV,(∀es:Es,(∀ck:Nat,(∀now:Int,(∀came:Int,(∀went:Int,(∀x:Nat→VO,(Fi (rg) (lk) (es) (x)→(Ui (u_27)→Q (.agg [hP,jb,(.ptr 11 0),(.ptr 12 0),(.ptr 13 0),(.ptr 14 0)]) ⟨[(o (0:Nat)),(o (1:Nat)),(.cells [(.val (.int .i64 (Wd.pc w))),(.vec 3 (Wd.B w) .none),(.vec 1 (Wd.U w) .none),(.vec 1 (Wd.D w) .none),(.vec 3 (Wd.S w) .none),(.vec 1 (Wd.C w) .none),(.vec 5 (Wd.F w) .none),(.vec 1 (Wd.W w) .none)]),(.cells [(.ptr 6 0),(.ptr 8 0),(.ptr 11 0),(.ptr 12 0),(.ptr 13 0),(.ptr 14 0)]),(rg),(.map ⟨true,[(.int .i64),(.int .u32),(.int .u32),(.int .i64),(.int .i64)]⟩ (lk) (es) (ck)),(.cells [(.val (.int .i64 20)),(.val (.int .i64 100)),(.val (.int .i64 (now))),(.map 5),(.ptr 4 0),(.val (.int .i64 (came))),(.val (.int .i64 (went)))]),(pm),(.cells [(.val (.int .i64 (n))),(.map 7)]),(sm),(rm),(.cells [(.map 9),(.map 10)]),(u_27),(q),(r_23),(.cells [(.ptr 6 0),(.ptr 8 0),(.ptr 11 0),(.ptr 12 0),(.ptr 13 0),(.ptr 14 0)])]++(ap x++ []),[]⟩))))))))))))))))))))))))))))))))):=by kernel_rfl
theorem FO (o:Nat→VO)(w:Wd)(n:Int)(pm sm rm u q r:VO)(Pi Qi:VO→Prop)(b1 b2 b3:Bool)(i a c:Int)(j:Nat)(Q:Exit→List TV→VT→List Nat→Nat→Prop):vx prog ae (aE [(Ca,FG Pi),(Cd,vj Pi),(Ce,vj Pi),(pu,FH Qi),(CB,vk Qi),(CC,vk Qi)]) (bw [(999998,.dead,none),(33,.elt (eV i a c),none),(55,.elt [.val (.bool b1)],none),(65,.elt [.val (.bool b1)],none),(80,.elt [.val (.bool b2)],none),(90,.elt [.val (.bool b2)],none)]) 300 bq none 0 (dh prog ej 0) (ax 169 vl (mV 3 w.B j)) (iS o w n pm sm rm u q r) [] (dl vl Q)=
 (bif decide ((↑j:Int)<(↑(length (Wd.B w)):Int))
 then (aI prog (λ_=>.none) (.indexAddr 22 (.tmp 28) (.tmp 30)) [(28,(dE (Wd.B w))),(30,(ar (↑j:Int)))] (tM i a c)∧
 (((@Eq (Nat) 0 0)∧
 Pi (pm))∧
 (∀e:Int,(∀m':VO,(Pi (m')→(((@Eq (Nat) 0 0)∧
 Qi (q))∧
 (∀e_22:Int,(∀m'_23:VO,(Qi (m'_23)→(bif decide ((↑j:Int)<(↑(length (Wd.U w)):Int))
 then (aI prog (λ_=>.none) (.indexAddr 23 (.tmp 53) (.tmp 54)) [(53,(eG (Wd.U w))),(54,(ar (↑j:Int)))] (tK b1)∧
 (((@Eq (Nat) 0 0)∧
 Pi (m'))∧
 (∀e_25:Int,(∀m'_26:VO,(Pi (m'_26)→(aI prog (λ_=>.none) (.indexAddr 23 (.tmp 63) (.tmp 64)) [(63,(eG (Wd.U w))),(64,(ar (↑j:Int)))] (tK b1)∧
 (((@Eq (Nat) 0 0)∧
 Qi (m'_23))∧
 (∀e_28:Int,(∀m'_29:VO,(Qi (m'_29)→(bif decide ((↑j:Int)<(↑(length (Wd.D w)):Int))
 then (aI prog (λ_=>.none) (.indexAddr 23 (.tmp 78) (.tmp 79)) [(78,(eG (Wd.D w))),(79,(ar (↑j:Int)))] (tK b2)∧
 (((@Eq (Nat) 0 0)∧
 Pi (m'_26))∧
 (∀e_31:Int,(∀m'_32:VO,(Pi (m'_32)→(aI prog (λ_=>.none) (.indexAddr 23 (.tmp 88) (.tmp 89)) [(88,(eG (Wd.D w))),(89,(ar (↑j:Int)))] (tK b2)∧
 (((@Eq (Nat) 0 0)∧
 Qi (m'_29))∧
 (∀e_34:Int,(∀m'_35:VO,(Qi (m'_35)→Q .normal (o5 (Wd.B w) (↑(length (Wd.B w)):Int) (wrap i64 ((↑j:Int)+(1:Int)))) (tJ (o (0:Nat)) (o (1:Nat)) (Wd.pc w) (Wd.B w) (Wd.U w) (Wd.D w) (Wd.S w) (Wd.C w) (Wd.F w) (Wd.W w) (.val (.pointer .none)) (.val (.pointer .none)) (.val (.pointer .none)) (.val (.pointer .none)) (.val (.pointer .none)) (.val (.pointer .none)) (.map ⟨true,[(.int .i64),(.int .u32),(.int .u32),(.int .i64),(.int .i64)]⟩ (λ_=>.none) [] 0) (.map 5) m'_32 n (.map 7) sm rm (.map 9) (.map 10) u m'_35 r i a c) [] 169))))))))))
 else Q .normal (o5 (Wd.B w) (↑(length (Wd.B w)):Int) (wrap i64 ((↑j:Int)+(1:Int)))) (tJ (o (0:Nat)) (o (1:Nat)) (Wd.pc w) (Wd.B w) (Wd.U w) (Wd.D w) (Wd.S w) (Wd.C w) (Wd.F w) (Wd.W w) (.val (.pointer .none)) (.val (.pointer .none)) (.val (.pointer .none)) (.val (.pointer .none)) (.val (.pointer .none)) (.val (.pointer .none)) (.map ⟨true,[(.int .i64),(.int .u32),(.int .u32),(.int .i64),(.int .i64)]⟩ (λ_=>.none) [] 0) (.map 5) m'_26 n (.map 7) sm rm (.map 9) (.map 10) u m'_29 r i a c) [] 169)))))))))))
 else (bif decide ((↑j:Int)<(↑(length (Wd.D w)):Int))
 then (aI prog (λ_=>.none) (.indexAddr 23 (.tmp 78) (.tmp 79)) [(78,(eG (Wd.D w))),(79,(ar (↑j:Int)))] (tK b2)∧
 (((@Eq (Nat) 0 0)∧
 Pi (m'))∧
 (∀e_25:Int,(∀m'_26:VO,(Pi (m'_26)→(aI prog (λ_=>.none) (.indexAddr 23 (.tmp 88) (.tmp 89)) [(88,(eG (Wd.D w))),(89,(ar (↑j:Int)))] (tK b2)∧
 (((@Eq (Nat) 0 0)∧
 Qi (m'_23))∧
 (∀e_28:Int,(∀m'_29:VO,(Qi (m'_29)→Q .normal (o5 (Wd.B w) (↑(length (Wd.B w)):Int) (wrap i64 ((↑j:Int)+(1:Int)))) (tJ (o (0:Nat)) (o (1:Nat)) (Wd.pc w) (Wd.B w) (Wd.U w) (Wd.D w) (Wd.S w) (Wd.C w) (Wd.F w) (Wd.W w) (.val (.pointer .none)) (.val (.pointer .none)) (.val (.pointer .none)) (.val (.pointer .none)) (.val (.pointer .none)) (.val (.pointer .none)) (.map ⟨true,[(.int .i64),(.int .u32),(.int .u32),(.int .i64),(.int .i64)]⟩ (λ_=>.none) [] 0) (.map 5) m'_26 n (.map 7) sm rm (.map 9) (.map 10) u m'_29 r i a c) [] 169))))))))))
 else Q .normal (o5 (Wd.B w) (↑(length (Wd.B w)):Int) (wrap i64 ((↑j:Int)+(1:Int)))) (tJ (o (0:Nat)) (o (1:Nat)) (Wd.pc w) (Wd.B w) (Wd.U w) (Wd.D w) (Wd.S w) (Wd.C w) (Wd.F w) (Wd.W w) (.val (.pointer .none)) (.val (.pointer .none)) (.val (.pointer .none)) (.val (.pointer .none)) (.val (.pointer .none)) (.val (.pointer .none)) (.map ⟨true,[(.int .i64),(.int .u32),(.int .u32),(.int .i64),(.int .i64)]⟩ (λ_=>.none) [] 0) (.map 5) m' n (.map 7) sm rm (.map 9) (.map 10) u m'_23 r i a c) [] 169)))))))))))
 else Q (.exit 0) (o5 (Wd.B w) (↑(length (Wd.B w)):Int) (↑j:Int)) (AI (o (0:Nat)) (o (1:Nat)) (Wd.pc w) (Wd.B w) (Wd.U w) (Wd.D w) (Wd.S w) (Wd.C w) (Wd.F w) (Wd.W w) (.val (.pointer .none)) (.val (.pointer .none)) (.val (.pointer .none)) (.val (.pointer .none)) (.val (.pointer .none)) (.val (.pointer .none)) (.map ⟨true,[(.int .i64),(.int .u32),(.int .u32),(.int .i64),(.int .i64)]⟩ (λ_=>.none) [] 0) (.map 5) pm n (.map 7) sm rm (.map 9) (.map 10) u q r) [] 169):=by kernel_rfl
theorem FP (o:Nat→VO)(w:Wd)(n:Int)(pm sm rm u q r:VO)(Si:VO→VO→Prop)(Ri:VO→Prop)(i a c p:Int)(j:Nat)(Q:Exit→List TV→VT→List Nat→Nat→Prop):vx prog ae (aE [(B5,FI Si),(B6,FJ Si),(lr,FL Ri),(xS,FN Ri)]) (bw [(999998,.dead,none),(100,.elt (eV i a c),none),(122,.elt [.val (.int .i64 p)],none),(132,.elt [.val (.int .i64 p)],none)]) 300 bq none 0 (dh prog ej 2) (ax 169 xY (mV 3 w.S j)) (iS o w n pm sm rm u q r) [] (dl xY Q)=
 (bif decide ((↑j:Int)<(↑(length (Wd.S w)):Int))
 then (aI prog (λ_=>.none) (.indexAddr 24 (.tmp 95) (.tmp 97)) [(95,(dE (Wd.S w))),(97,(ar (↑j:Int)))] (tM i a c)∧
 (((@Eq (Nat) 0 0)∧
 Si (sm) (rm))∧
 (∀e:Int,(∀m':VO,(∀k':VO,(Si (m') (k')→(((@Eq (Nat) 0 0)∧
 Ri (r))∧
 (∀e_21:Int,(∀m'_22:VO,(Ri (m'_22)→(bif decide ((↑j:Int)<(↑(length (Wd.C w)):Int))
 then (aI prog (λ_=>.none) (.indexAddr 25 (.tmp 120) (.tmp 121)) [(120,(eG (Wd.C w))),(121,(ar (↑j:Int)))] (rt p)∧
 (((@Eq (Nat) 0 0)∧
 Si (m') (k'))∧
 (∀e_24:Int,(∀m'_25:VO,(∀k'_26:VO,(Si (m'_25) (k'_26)→(aI prog (λ_=>.none) (.indexAddr 25 (.tmp 130) (.tmp 131)) [(130,(eG (Wd.C w))),(131,(ar (↑j:Int)))] (rt p)∧
 (((@Eq (Nat) 0 0)∧
 Ri (m'_22))∧
 (∀e_28:Int,(∀m'_29:VO,(Ri (m'_29)→Q .normal (o5 (Wd.S w) (↑(length (Wd.S w)):Int) (wrap i64 ((↑j:Int)+(1:Int)))) (tJ (o (0:Nat)) (o (1:Nat)) (Wd.pc w) (Wd.B w) (Wd.U w) (Wd.D w) (Wd.S w) (Wd.C w) (Wd.F w) (Wd.W w) (.val (.pointer .none)) (.val (.pointer .none)) (.val (.pointer .none)) (.val (.pointer .none)) (.val (.pointer .none)) (.val (.pointer .none)) (.map ⟨true,[(.int .i64),(.int .u32),(.int .u32),(.int .i64),(.int .i64)]⟩ (λ_=>.none) [] 0) (.map 5) pm n (.map 7) m'_25 k'_26 (.map 9) (.map 10) u q m'_29 i a c) [] 169)))))))))))
 else Q .normal (o5 (Wd.S w) (↑(length (Wd.S w)):Int) (wrap i64 ((↑j:Int)+(1:Int)))) (tJ (o (0:Nat)) (o (1:Nat)) (Wd.pc w) (Wd.B w) (Wd.U w) (Wd.D w) (Wd.S w) (Wd.C w) (Wd.F w) (Wd.W w) (.val (.pointer .none)) (.val (.pointer .none)) (.val (.pointer .none)) (.val (.pointer .none)) (.val (.pointer .none)) (.val (.pointer .none)) (.map ⟨true,[(.int .i64),(.int .u32),(.int .u32),(.int .i64),(.int .i64)]⟩ (λ_=>.none) [] 0) (.map 5) pm n (.map 7) m' k' (.map 9) (.map 10) u q m'_22 i a c) [] 169)))))))))))
 else Q (.exit 2) (o5 (Wd.S w) (↑(length (Wd.S w)):Int) (↑j:Int)) (AI (o (0:Nat)) (o (1:Nat)) (Wd.pc w) (Wd.B w) (Wd.U w) (Wd.D w) (Wd.S w) (Wd.C w) (Wd.F w) (Wd.W w) (.val (.pointer .none)) (.val (.pointer .none)) (.val (.pointer .none)) (.val (.pointer .none)) (.val (.pointer .none)) (.val (.pointer .none)) (.map ⟨true,[(.int .i64),(.int .u32),(.int .u32),(.int .i64),(.int .i64)]⟩ (λ_=>.none) [] 0) (.map 5) pm n (.map 7) sm rm (.map 9) (.map 10) u q r) [] 169):=by kernel_rfl
theorem FQ (o:Nat→VO)(rg:VO)(lk:Value→Option TV)(es:Es)(ck:Nat)(now came went:Int)(x:Nat→VO)(w:Wd)(n:Int)(pm sm rm u q r:VO)(Ui:VO→Prop)(f:Fl)(b:Int)(Pre:VT→Prop)(R1:VO→(Value→Option TV)→Es→(Nat→VO)→Prop)(R2:VO→(Value→Option TV)→Es→(Nat→VO)→VO→Prop)(j:Nat)(Q:Exit→List TV→VT→List Nat→Nat→Prop):vx prog ae (aE [(ve,fU (eW o w n pm sm rm u q r) (.cells (bo f)) f b Pre R1 R2),(xG,uU Ui)]) (bw [(999998,.dead,none),(142,.elt (bo f),none),(155,.elt [.val (.int .i64 b)],none),(164,.elt [.val (.int .i64 b)],none)]) 300 bq none 0 (dh prog ej 4) (ax 169 qS (mV 5 w.F j)) (fy (eW o w n pm sm rm u q r) rg lk es ck now came went x []) [] (dl qS Q)=
 (bif decide ((↑j:Int)<(↑(length (Wd.F w)):Int))
 then (aI prog (λ_=>.none) (.indexAddr 26 (.tmp 137) (.tmp 139)) [(137,(.vec 5 (Wd.F w) .none)),(139,(ar (↑j:Int)))] (.elt [(ar (fst f)),(la (fst (snd f))),(la (fst (snd (snd f)))),(ar (fst (snd (snd (snd f))))),(ar (snd (snd (snd (snd f)))))])∧
 (bif decide ((↑j:Int)<(↑(length (Wd.W w)):Int))
 then (aI prog (λ_=>.none) (.indexAddr 25 (.tmp 153) (.tmp 154)) [(153,(eG (Wd.W w))),(154,(ar (↑j:Int)))] (rt b)∧
 (((@Eq (Nat) 0 0)∧
 ((@Eq (List TV) [hP,(hZ (fst f) (fst (snd f)) (fst (snd (snd f))) (fst (snd (snd (snd f)))) (snd (snd (snd (snd f))))),(ar b),bB] [hP,(hZ (fst f) (fst (snd f)) (fst (snd (snd f))) (fst (snd (snd (snd f)))) (snd (snd (snd (snd f))))),(ar b),bB])∧
 Pre ⟨[(o (0:Nat)),(o (1:Nat)),(.cells [(.val (.int .i64 (Wd.pc w))),(.vec 3 (Wd.B w) .none),(.vec 1 (Wd.U w) .none),(.vec 1 (Wd.D w) .none),(.vec 3 (Wd.S w) .none),(.vec 1 (Wd.C w) .none),(.vec 5 (Wd.F w) .none),(.vec 1 (Wd.W w) .none)]),(.cells [(.val (.pointer .none)),(.val (.pointer .none)),(.val (.pointer .none)),(.val (.pointer .none)),(.val (.pointer .none)),(.val (.pointer .none))]),(rg),(.map ⟨true,[(.int .i64),(.int .u32),(.int .u32),(.int .i64),(.int .i64)]⟩ (lk) (es) (ck)),(.cells [(.val (.int .i64 20)),(.val (.int .i64 100)),(.val (.int .i64 (now))),(.map 5),(.ptr 4 0),(.val (.int .i64 (came))),(.val (.int .i64 (went)))]),(pm),(.cells [(.val (.int .i64 (n))),(.map 7)]),(sm),(rm),(.cells [(.map 9),(.map 10)]),(u),(q),(r),(.cells [(.ptr 6 0),(.ptr 8 0),(.ptr 11 0),(.ptr 12 0),(.ptr 13 0),(.ptr 14 0)])]++(ap x++ [(.cells [(.val (.int .i64 (fst f))),(.val (.int .u32 (fst (snd f)))),(.val (.int .u32 (fst (snd (snd f))))),(.val (.int .i64 (fst (snd (snd (snd f)))))),(.val (.int .i64 (snd (snd (snd (snd f))))))])]),[]⟩))∧
 ((∀en:En,(∀q_26:Bool,(∀rg_27:VO,(∀lk_28:Value→Option TV,(∀es_29:Es,(∀ck_30:Nat,(∀now_31:Int,(∀came_32:Int,(∀went_33:Int,(∀x_34:Nat→VO,(R1 (rg_27) (lk_28) (es_29) (x_34)→(aI prog (λ_=>.none) (.indexAddr 25 (.tmp 162) (.tmp 163)) [(162,(eG (Wd.W w))),(163,(ar (↑j:Int)))] (rt b)∧
 (((@Eq (Nat) 0 0)∧
 Ui (u))∧
 (∀e:En,(∀q_37:Bool,(∀m':VO,(Ui (m')→Q .normal (AH (Wd.F w) (↑(length (Wd.F w)):Int) (wrap i64 ((↑j:Int)+(1:Int)))) ⟨[(o (0:Nat)),(o (1:Nat)),(.cells [(.val (.int .i64 (Wd.pc w))),(.vec 3 (Wd.B w) .none),(.vec 1 (Wd.U w) .none),(.vec 1 (Wd.D w) .none),(.vec 3 (Wd.S w) .none),(.vec 1 (Wd.C w) .none),(.vec 5 (Wd.F w) .none),(.vec 1 (Wd.W w) .none)]),(.cells [(.val (.pointer .none)),(.val (.pointer .none)),(.val (.pointer .none)),(.val (.pointer .none)),(.val (.pointer .none)),(.val (.pointer .none))]),(rg_27),(.map ⟨true,[(.int .i64),(.int .u32),(.int .u32),(.int .i64),(.int .i64)]⟩ (lk_28) (es_29) (ck_30)),(.cells [(.val (.int .i64 20)),(.val (.int .i64 100)),(.val (.int .i64 (now_31))),(.map 5),(.ptr 4 0),(.val (.int .i64 (came_32))),(.val (.int .i64 (went_33)))]),(pm),(.cells [(.val (.int .i64 (n))),(.map 7)]),(sm),(rm),(.cells [(.map 9),(.map 10)]),(m'),(q),(r),(.cells [(.ptr 6 0),(.ptr 8 0),(.ptr 11 0),(.ptr 12 0),(.ptr 13 0),(.ptr 14 0)])]++(ap x_34++ [(.cells [(.val (.int .i64 (fst f))),(.val (.int .u32 (fst (snd f)))),(.val (.int .u32 (fst (snd (snd f))))),(.val (.int .i64 (fst (snd (snd (snd f)))))),(.val (.int .i64 (snd (snd (snd (snd f))))))])]),[]⟩ [] 169)))))))))))))))))∧
 (∀en:En,(∀q_26:Bool,(∀rg_27:VO,(∀lk_28:Value→Option TV,(∀es_29:Es,(∀ck_30:Nat,(∀now_31:Int,(∀came_32:Int,(∀went_33:Int,(∀x_34:Nat→VO,(∀b1:VO,(∀b2:VO,(∀b3:VO,(∀l:VO,(R2 (rg_27) (lk_28) (es_29) (x_34) (l)→(aI prog (λ_=>.none) (.indexAddr 25 (.tmp 162) (.tmp 163)) [(162,(eG (Wd.W w))),(163,(ar (↑j:Int)))] (rt b)∧
 (((@Eq (Nat) 0 0)∧
 Ui (u))∧
 (∀e:En,(∀q_41:Bool,(∀m':VO,(Ui (m')→Q .normal (AH (Wd.F w) (↑(length (Wd.F w)):Int) (wrap i64 ((↑j:Int)+(1:Int)))) ⟨[(o (0:Nat)),(o (1:Nat)),(.cells [(.val (.int .i64 (Wd.pc w))),(.vec 3 (Wd.B w) .none),(.vec 1 (Wd.U w) .none),(.vec 1 (Wd.D w) .none),(.vec 3 (Wd.S w) .none),(.vec 1 (Wd.C w) .none),(.vec 5 (Wd.F w) .none),(.vec 1 (Wd.W w) .none)]),(.cells [(.val (.pointer .none)),(.val (.pointer .none)),(.val (.pointer .none)),(.val (.pointer .none)),(.val (.pointer .none)),(.val (.pointer .none))]),(rg_27),(.map ⟨true,[(.int .i64),(.int .u32),(.int .u32),(.int .i64),(.int .i64)]⟩ (lk_28) (es_29) (ck_30)),(.cells [(.val (.int .i64 20)),(.val (.int .i64 100)),(.val (.int .i64 (now_31))),(.map 5),(.ptr 4 0),(.val (.int .i64 (came_32))),(.val (.int .i64 (went_33)))]),(pm),(.cells [(.val (.int .i64 (n))),(.map 7)]),(sm),(rm),(.cells [(.map 9),(.map 10)]),(m'),(q),(r),(.cells [(.ptr 6 0),(.ptr 8 0),(.ptr 11 0),(.ptr 12 0),(.ptr 13 0),(.ptr 14 0)])]++(ap x_34++ [(.cells [(.val (.int .i64 (fst f))),(.val (.int .u32 (fst (snd f)))),(.val (.int .u32 (fst (snd (snd f))))),(.val (.int .i64 (fst (snd (snd (snd f)))))),(.val (.int .i64 (snd (snd (snd (snd f))))))]),(b1),(b2),(b3),(l)]),[]⟩ [] 169))))))))))))))))))))))))
 else Q .normal (AH (Wd.F w) (↑(length (Wd.F w)):Int) (wrap i64 ((↑j:Int)+(1:Int)))) ⟨[(o (0:Nat)),(o (1:Nat)),(.cells [(.val (.int .i64 (Wd.pc w))),(.vec 3 (Wd.B w) .none),(.vec 1 (Wd.U w) .none),(.vec 1 (Wd.D w) .none),(.vec 3 (Wd.S w) .none),(.vec 1 (Wd.C w) .none),(.vec 5 (Wd.F w) .none),(.vec 1 (Wd.W w) .none)]),(.cells [(.val (.pointer .none)),(.val (.pointer .none)),(.val (.pointer .none)),(.val (.pointer .none)),(.val (.pointer .none)),(.val (.pointer .none))]),(rg),(.map ⟨true,[(.int .i64),(.int .u32),(.int .u32),(.int .i64),(.int .i64)]⟩ (lk) (es) (ck)),(.cells [(.val (.int .i64 20)),(.val (.int .i64 100)),(.val (.int .i64 (now))),(.map 5),(.ptr 4 0),(.val (.int .i64 (came))),(.val (.int .i64 (went)))]),(pm),(.cells [(.val (.int .i64 (n))),(.map 7)]),(sm),(rm),(.cells [(.map 9),(.map 10)]),(u),(q),(r),(.cells [(.ptr 6 0),(.ptr 8 0),(.ptr 11 0),(.ptr 12 0),(.ptr 13 0),(.ptr 14 0)])]++(ap x++ [(.cells [(.val (.int .i64 (fst f))),(.val (.int .u32 (fst (snd f)))),(.val (.int .u32 (fst (snd (snd f))))),(.val (.int .i64 (fst (snd (snd (snd f)))))),(.val (.int .i64 (snd (snd (snd (snd f))))))])]),[]⟩ [] 169))
 else Q (.exit 4) (AH (Wd.F w) (↑(length (Wd.F w)):Int) (↑j:Int)) ⟨[(o (0:Nat)),(o (1:Nat)),(.cells [(.val (.int .i64 (Wd.pc w))),(.vec 3 (Wd.B w) .none),(.vec 1 (Wd.U w) .none),(.vec 1 (Wd.D w) .none),(.vec 3 (Wd.S w) .none),(.vec 1 (Wd.C w) .none),(.vec 5 (Wd.F w) .none),(.vec 1 (Wd.W w) .none)]),(.cells [(.val (.pointer .none)),(.val (.pointer .none)),(.val (.pointer .none)),(.val (.pointer .none)),(.val (.pointer .none)),(.val (.pointer .none))]),(rg),(.map ⟨true,[(.int .i64),(.int .u32),(.int .u32),(.int .i64),(.int .i64)]⟩ (lk) (es) (ck)),(.cells [(.val (.int .i64 20)),(.val (.int .i64 100)),(.val (.int .i64 (now))),(.map 5),(.ptr 4 0),(.val (.int .i64 (came))),(.val (.int .i64 (went)))]),(pm),(.cells [(.val (.int .i64 (n))),(.map 7)]),(sm),(rm),(.cells [(.map 9),(.map 10)]),(u),(q),(r),(.cells [(.ptr 6 0),(.ptr 8 0),(.ptr 11 0),(.ptr 12 0),(.ptr 13 0),(.ptr 14 0)])]++(ap x++ []),[]⟩ [] 169):=by kernel_rfl
theorem Kk (n:Int)(Q:TV→VT→Prop):aK prog ae c9 bv 300 bq 0 Dd [.val (.int .i64 n)] jc Q=
 (bif decide (n<(1:Int))
 then Q (.val (.pointer .none)) jc
 else (bif decide (n>(100:Int))
 then Q (.val (.pointer .none)) jc
 else Q (.ptr 1 0) ⟨[(.map ⟨false,[(.int .i64)]⟩ (λ_=>.none) [] 0),(dT n (.map 0))],[]⟩)):=by kernel_rfl
theorem Kl (n:Int)(Q:TV→VT→Prop):aK prog ae c9 bv 300 bq 0 De [.val (.int .i64 n)] jc Q=
 (bif decide (n<(1:Int))
 then Q (.val (.pointer .none)) jc
 else (bif decide (n>(100:Int))
 then Q (.val (.pointer .none)) jc
 else Q dP ⟨[(.cells [(ar n),dU])],[]⟩)):=by kernel_rfl
set_option maxRecDepth 100000
section
open Go.RowKit Go.Maps Go.Sort
section
variable {P:Program}{G:aC}
theorem nS {c:Code}{n:Nat}{keys:List Nat}{vs0:List TV}{Pre:VT→Prop}{R:VT→KX→Prop}(h:∀T,Pre T→∀K,R T K→VWx P G none 0 c (ax n keys vs0) T [] K):∀rd ro σ T D K,vI n keys vs0 Pre R rd ro σ T D K→VWx P G rd ro c σ T D K:=by
 rintro rd ro σ T D K ⟨⟨rfl,rfl,rfl,hn,hp,hT⟩,hR⟩
 exact dy (ad:= []) (T0:=T) (R:=R T) (h T hT) none 0 σ T [] K ⟨⟨rfl,rfl,rfl,trivial,rfl,hn,hp⟩,hR⟩
theorem xZ (hG:lT G){f:FuncId}{xs ys:List TV}{T:VT}{k:Nat}{o:VO}(ho:T.objs[k]?=some o)(hl:o.live=true)(hr:∀f g,o.ren f g=o)(hy:ay (am [k]) (am []) ys=xs){R:TV→VO→Prop}(hR:∀x o',R x o'→(∀f g,x.ren f g=x)∧∀f g,o'.ren f g=o')
  (hv:VCx P G 0 f xs ⟨[o],[]⟩ λx T'=>∃o',R x o'∧T'=⟨[o'],[]⟩):VCx P G 0 f ys T λx T'=>∃o',R x o'∧T'={T with objs:=T.objs.set k o' }:=by
 have hg:T.give [k] []=⟨[o],[]⟩:=by simp only [VT.give,map_cons,map_nil,ho,getD_some,hr]
 refine (VCx.lift (xs:=xs) [k] [] hG (by simp) nodup_nil (λj hj=> ?_) (by simp) (λ_ _=>zero_le _) hy (by rw [hg];exact hv) (λx T' hq=> ?_)).mono ?_
 ·obtain rfl:=mem_singleton.1 hj;exact ⟨_,ho,hl⟩
 ·obtain ⟨o',_,rfl⟩:=hq;exact ⟨le_refl 1,zero_le _⟩
 ·rintro x T' ⟨y,T2,⟨o',h,rfl⟩,rfl,rfl⟩
  obtain ⟨h1,h2⟩:=hR _ _ h
  refine ⟨o',by rw [h1];exact h,?_⟩
  simp only [VT.back,map_cons,map_nil,h2,aS,append_nil]
end
def PiD (m:VO):Prop:=∃lk es ck S st,m=.map kI lk es ck∧PoOk lk es ck S st
def QiD (n:Int)(m:VO):Prop:=∃L:List Mb,j4 L∧m=jL n (L.map aD)
def RiD (m:VO):Prop:=∃S R,lu S R∧m=mO ((bk S R).map aX)
def UiD (m:VO):Prop:=∃(L:List En) (c g:Int),Fu L∧m=uO 0 (L.map aP) c g
def SiD (m k:VO):Prop:=∃lk es ck lk2 es2 ck2 S R st,m=.map kI lk es ck∧k=.map kI lk2 es2 ck2∧SitesOk lk es ck S st∧RepsOk lk2 es2 R
theorem PiD.ren {m:VO}(h:PiD m)(f g:Nat→Option Nat):m.ren f g=m:=by obtain ⟨_,_,_,_,_,rfl,h⟩:=h;exact h.ren f g
theorem QiD.ren {n:Int}{m:VO}(h:QiD n m)(f g:Nat→Option Nat):m.ren f g=m:=by obtain ⟨_,_,rfl⟩:=h;exact qh f g n _
theorem RiD.ren {m:VO}(h:RiD m)(f g:Nat→Option Nat):m.ren f g=m:=by obtain ⟨_,_,_,rfl⟩:=h;exact sZ f g _
theorem UiD.ren {m:VO}(h:UiD m)(f g:Nat→Option Nat):m.ren f g=m:=by obtain ⟨_,_,_,_,rfl⟩:=h;exact pw f g _ _ _ _
theorem SiD.ren1 {m k:VO}(h:SiD m k)(f g:Nat→Option Nat):m.ren f g=m:=by obtain ⟨_,_,_,_,_,_,_,_,_,rfl,_,h,_⟩:=h;exact h.ren f g
theorem SiD.ren2 {m k:VO}(h:SiD m k)(f g:Nat→Option Nat):k.ren f g=k:=by obtain ⟨_,_,_,_,_,ck2,_,_,_,_,rfl,_,h⟩:=h;exact h.ren ck2 f g
theorem x9 {f:FuncId}{xs ys:List TV}(hy:ay (am [8,7]) (am []) ys=xs)(hv:∀n lk es ck S st,PoOk lk es ck S st→VCx prog ae 0 f xs (pT n lk es ck) λx T'=>∃S',Cm n S' x T'){T:VT}{n:Int}{m:VO}(h8:T.objs[8]?=some (.cells [.val (.int .i64 n),.map 7]))(h7:T.objs[7]?=some m)(hm:PiD m){K:TV→VT→Prop}
  (hk:∀(e:Int) (m':VO),PiD m'→K (.val (.int .i64 e)) {T with objs:=T.objs.set 7 m' }):VCx prog ae 0 f ys T K:=by
 obtain ⟨lk,es,ck,S,st,rfl,h⟩:=hm
 refine (Fc h h8 h7 hy (R:=λx a b c=>∃e S' st',x=.val (.int .i64 e)∧PoOk a b c S' st') (λx a b c hr=>by obtain ⟨e,_,_,rfl,_⟩:=hr;exact λ_ _=>rfl) ((hv n lk es ck S st h).mono ?_)).mono ?_
 ·rintro x T' ⟨S',e,a,b,c,st',rfl,rfl,h'⟩
  exact ⟨a,b,c,rfl,⟨S',st',h'⟩,e,S',st',rfl,h'⟩
 ·rintro x T' ⟨a,b,c,⟨e,S',st',rfl,h'⟩,rfl⟩
  exact hk e _ ⟨a,b,c,S',st',rfl,h'⟩
theorem I1:∀ro ys T K,FG PiD ro ys T K→VCx prog ae ro Ca ys T K:=by
 intro ro ys T K h
 unfold FG at h
 split at h
 ·rename_i i a c n m h8 h7
  obtain ⟨⟨rfl,hm⟩,hk⟩:=h
  exact x9 (xs:= [.ptr 0 0,.agg (aA (i,a,c))]) rfl (λn lk es ck S st h=>HW h (i,a,c)) h8 h7 hm hk
 ·exact h.elim
theorem Km:∀ro ys T K,vj PiD ro ys T K→VCx prog ae ro Cd ys T K:=by
 intro ro ys T K h
 unfold vj at h
 split at h
 ·rename_i z q n m h8 h7
  obtain ⟨⟨rfl,hm⟩,hk⟩:=h
  exact x9 (xs:= [.ptr 0 0,.val (.int .i64 z),.val (.bool q)]) rfl (λn lk es ck S st h=>(HU h q z).mono λx T' hq=>⟨_,hq⟩) h8 h7 hm hk
 ·exact h.elim
theorem Kn:∀ro ys T K,vj PiD ro ys T K→VCx prog ae ro Ce ys T K:=by
 intro ro ys T K h
 unfold vj at h
 split at h
 ·rename_i z q n m h8 h7
  obtain ⟨⟨rfl,hm⟩,hk⟩:=h
  exact x9 (xs:= [.ptr 0 0,.val (.int .i64 z),.val (.bool q)]) rfl (λn lk es ck S st h=>(HV h q z).mono λx T' hq=>⟨_,hq⟩) h8 h7 hm hk
 ·exact h.elim
theorem Bb {f:FuncId}{xs ys:List TV}{n:Int}(hy:ay (am [13]) (am []) ys=xs)(hv:∀L,j4 L→VCx prog ae 0 f xs (b8 n (L.map aD) []) (zo n)){T:VT}{m:VO}(h13:T.objs[13]?=some m)(hm:QiD n m){K:TV→VT→Prop}
  (hk:∀(e:Int) (m':VO),QiD n m'→K (.val (.int .i64 e)) {T with objs:=T.objs.set 13 m' }):VCx prog ae 0 f ys T K:=by
 have hr:=hm.ren
 obtain ⟨L,hL,rfl⟩:=hm
 refine (xZ bc h13 rfl hr hy (R:=λx o'=>(∃e,x=.val (.int .i64 e))∧QiD n o') (λx o' h=>⟨by obtain ⟨⟨e,rfl⟩,_⟩:=h;exact λ_ _=>rfl,h.2.ren⟩) ((hv L hL).mono ?_)).mono ?_
 ·rintro x T' ⟨L',⟨h1,h2⟩,rfl⟩
  exact ⟨_,⟨h2,L',h1,rfl⟩,rfl⟩
 ·rintro x T' ⟨o',⟨⟨e,rfl⟩,h⟩,rfl⟩
  exact hk e o' h
theorem Ko (n:Int):∀ro ys T K,FH (QiD n) ro ys T K→VCx prog ae ro pu ys T K:=by
 intro ro ys T K h
 unfold FH at h
 split at h
 ·rename_i i a c m h13
  obtain ⟨⟨rfl,hm⟩,hk⟩:=h
  exact Bb (xs:= [.ptr 0 0,.agg (aA (i,a,c))]) rfl (λL hL=>Iz n L hL (i,a,c)) h13 hm hk
 ·exact h.elim
theorem Lr (n:Int):∀ro ys T K,vk (QiD n) ro ys T K→VCx prog ae ro CB ys T K:=by
 intro ro ys T K h
 unfold vk at h
 split at h
 ·rename_i z q m h13
  obtain ⟨⟨rfl,hm⟩,hk⟩:=h
  exact Bb (xs:= [.ptr 0 0,.val (.int .i64 z),.val (.bool q)]) rfl (λL hL=>Ix n L hL z q) h13 hm hk
 ·exact h.elim
theorem Ls (n:Int):∀ro ys T K,vk (QiD n) ro ys T K→VCx prog ae ro CC ys T K:=by
 intro ro ys T K h
 unfold vk at h
 split at h
 ·rename_i z q m h13
  obtain ⟨⟨rfl,hm⟩,hk⟩:=h
  exact Bb (xs:= [.ptr 0 0,.val (.int .i64 z),.val (.bool q)]) rfl (λL hL=>Iy n L hL z q) h13 hm hk
 ·exact h.elim
theorem FR {lk lk2:Value→Option TV}{es es2:Es}{ck ck2:Nat}{S:List aO}{st:List Nat}{R:cN}(h:SitesOk lk es ck S st)(h2:RepsOk lk2 es2 R){T:VT}(hi:T.objs[11]?=some (.cells [.map 9,.map 10]))(hj:T.objs[9]?=some (.map kI lk es ck))(hk:T.objs[10]?=some (.map kI lk2 es2 ck2)){f:FuncId}{xs ys:List TV}(hy:ay (am [11,9,10]) (am []) ys=xs)
  {X:TV→Prop} (hX:∀x,X x→∀f g,x.ren f g=x) (hv:VCx prog ae 0 f xs (sT lk lk2 es es2 ck ck2) λx T'=>X x∧∃S' R',sK S' R' T'):
  VCx prog ae 0 f ys T λx T'=>X x∧∃m' k',SiD m' k'∧T'={T with objs:=(T.objs.set 9 m').set 10 k' }:=by
 have q1:=h.ren (am [11,9,10]) (am [])
 have q2:=h2.ren ck2 (am [11,9,10]) (am [])
 have hg:T.give [11,9,10] []=sT lk lk2 es es2 ck ck2:=by
  simp only [VT.give,map_cons,map_nil,hi,hj,hk,getD_some,q1,q2,sT]
  rfl
 refine (VCx.lift (xs:=xs) [11,9,10] [] bc (by decide) nodup_nil (λk hk'=> ?_) (by simp) (λ_ _=>zero_le _) hy (by rw [hg];exact hv) (λx T' hq=> ?_)).mono ?_
 ·simp only [mem_cons,not_mem_nil,or_false] at hk'
  rcases hk' with rfl | rfl | rfl
  ·exact ⟨_,hi,rfl⟩
  ·exact ⟨_,hj,rfl⟩
  ·exact ⟨_,hk,rfl⟩
 ·obtain ⟨_,_,_,_,_,_,_,_,_,_,rfl,_⟩:=hq;exact ⟨le_refl 3,zero_le _⟩
 ·rintro x T' ⟨y,T2,⟨hx,S',R',ka,kb,ea,eb,ca,cb,st',rfl,h',h2'⟩,rfl,rfl⟩
  refine ⟨by rw [hX _ hx];exact hx,.map kI ka ea ca,.map kI kb eb cb,⟨ka,ea,ca,kb,eb,cb,S',R',st',rfl,rfl,h',h2'⟩,?_⟩
  have r1:=h'.ren (aq T.objs.length [11,9,10]) (aq T.tails.length [])
  have r2:=h2'.ren cb (aq T.objs.length [11,9,10]) (aq T.tails.length [])
  have e1:VO.ren (aq T.objs.length [11,9,10]) (aq T.tails.length []) (.cells [.map 1,.map 2])=.cells [.map 9,.map 10]:=by simp [VO.ren,ay,TV.ren,aq]
  simp only [VT.back,sT,map_cons,map_nil,r1,r2,e1,aS]
  rw [fe hi]
  simp [aS]
theorem Kq:∀ro ys T K,FI SiD ro ys T K→VCx prog ae ro B5 ys T K:=by
 intro ro ys T K h
 unfold FI at h
 split at h
 ·rename_i i a c m k h11 h9 h10
  obtain ⟨⟨rfl,hm⟩,hk⟩:=h
  obtain ⟨lk,es,ck,lk2,es2,ck2,S,R,st,rfl,rfl,g1,g2⟩:=hm
  refine (FR g1 g2 h11 h9 h10 (xs:= [.ptr 0 0,ix (i,a,c)]) rfl (X:=λx=>∃e,x=.val (.int .i64 e)) (λx hx=>by obtain ⟨e,rfl⟩:=hx;exact λ_ _=>rfl) ((HJ ⟨_,_,_,_,_,_,_,rfl,g1,g2⟩ (i,a,c)).mono ?_)).mono ?_
  ·rintro x T' ⟨rfl,h'⟩
   exact ⟨⟨_,rfl⟩,_,_,h'⟩
  ·rintro x T' ⟨⟨e,rfl⟩,m',k',h',rfl⟩
   exact hk e m' k' h'
 ·exact h.elim
theorem Kr:∀ro ys T K,FJ SiD ro ys T K→VCx prog ae ro B6 ys T K:=by
 intro ro ys T K h
 unfold FJ at h
 split at h
 ·rename_i i c u m k h11 h9 h10
  obtain ⟨⟨rfl,hm⟩,hk⟩:=h
  obtain ⟨lk,es,ck,lk2,es2,ck2,S,R,st,rfl,rfl,g1,g2⟩:=hm
  refine (FR g1 g2 h11 h9 h10 (xs:= [.ptr 0 0,.val (.int .i64 i),.val (.int .i64 c),.val (.int .i64 u)]) rfl (X:=λx=>∃e,x=.val (.int .i64 e)) (λx hx=>by obtain ⟨e,rfl⟩:=hx;exact λ_ _=>rfl) ((HI ⟨_,_,_,_,_,_,_,rfl,g1,g2⟩ i c u).mono ?_)).mono ?_
  ·rintro x T' ⟨rfl,h'⟩
   exact ⟨⟨_,rfl⟩,_,_,h'⟩
  ·rintro x T' ⟨⟨e,rfl⟩,m',k',h',rfl⟩
   exact hk e m' k' h'
 ·exact h.elim
theorem GZ {S:List aO}{R:cN}(g:lu S R)(t:aO):lu (jI S t) R:=by
 unfold jI
 cases hb:fv S t==0 with
 |false=>exact g
 |true=>
  rw [cond_true]
  have h0:fv S t=0:=by simpa using hb
  have hc:0≤t.1∧t.1≤255∧t.2.1≠0∧0≤t.2.2∧t.2.2≤1000000:=Decidable.byContradiction λhc=>by
   simp only [fv,decide_eq_false hc,Bool.not_false,cond_true] at h0
   exact absurd h0 (by decide)
  have hh:ez S t.1=false:=by
   cases hb2:ez S t.1 with
   |false=>rfl
   |true=>
    simp only [fv,hb2,decide_eq_true hc,Bool.not_true,cond_false,cond_true] at h0
    exact absurd h0 (by decide)
  have h8:¬8≤S.length:=λh8=>by
   simp only [fv,hh,decide_eq_true hc,decide_eq_true h8,Bool.not_true,cond_false,cond_true] at h0
   exact absurd h0 (by decide)
  have hn:S.find? (λs=>s.1==t.1)=none:=by
   unfold ez at hh
   cases hf:S.find? λs=>s.1==t.1 with
   |none=>rfl
   |some s=>rw [hf] at hh;cases hh
  exact {
   nd:=by
    rw [map_append]
    refine List.nodup_append.2 ⟨g.nd,by simp,λa ha b hb e=> ?_⟩
    obtain ⟨s,hs,rfl⟩:=mem_map.1 ha
    have hb':b=t.1:=by simpa using hb
    have:=List.find?_eq_none.1 hn s hs
    simp [e,hb'] at this
   few:=by simp;omega
   gone:=λi hi=>g.gone i (by
    rw [List.find?_append] at hi
    cases hf:S.find? λs=>s.1==i with
    |none=>rfl
    |some s=>rw [hf] at hi;simp at hi)}
theorem FS {f:FuncId}{xs ys:List TV}(hy:ay (am [14]) (am []) ys=xs){T:VT}{m:VO}(h14:T.objs[14]?=some m)(hm:RiD m)(hv:∀S R,lu S R→VCx prog ae 0 f xs ⟨[.cells [.vec 5 ((bk S R).map aX) .none]],[]⟩ λx T'=>∃z mz,x=.val (.int .i64 z)∧T'=⟨[.cells [mz]],[]⟩∧∃S' R',lu S' R'∧mz=.vec 5 ((bk S' R').map aX) .none){K:TV→VT→Prop}
  (hk:∀(e:Int) (m':VO),RiD m'→K (.val (.int .i64 e)) {T with objs:=T.objs.set 14 m' }):VCx prog ae 0 f ys T K:=by
 have hr:=hm.ren
 obtain ⟨S,R,g,rfl⟩:=hm
 refine (xZ bc h14 rfl hr hy (R:=λx o'=>(∃e,x=.val (.int .i64 e))∧RiD o') (λx o' h=>⟨by obtain ⟨⟨e,rfl⟩,_⟩:=h;exact λ_ _=>rfl,h.2.ren⟩) ((hv S R g).mono ?_)).mono ?_
 ·rintro x T' ⟨z,mz,rfl,rfl,S',R',g',rfl⟩
  exact ⟨_,⟨⟨z,rfl⟩,S',R',g',rfl⟩,rfl⟩
 ·rintro x T' ⟨o',⟨⟨e,rfl⟩,h⟩,rfl⟩
  exact hk e o' h
theorem Ks:∀ro ys T K,FL RiD ro ys T K→VCx prog ae ro lr ys T K:=by
 intro ro ys T K h
 unfold FL at h
 split at h
 ·rename_i i a c m h14
  obtain ⟨⟨rfl,hm⟩,hk⟩:=h
  refine FS (xs:= [.ptr 0 0,.agg (da i a c)]) rfl h14 hm (λS R g=>(GX g (i,a,c)).mono ?_) hk
  rintro x T' ⟨z,mz,rfl,rfl,_,rfl⟩
  exact ⟨z,_,rfl,rfl,_,_,GZ g _,rfl⟩
 ·exact h.elim
end
set_option maxRecDepth 100000
section
open Go.RowKit Go.Maps Go.Sort
theorem G0 {S:List aO}{R:cN}(g:lu S R)(i c u:Int):lu S (ld S R i c u):=by
 unfold ld
 cases hb:gU S i c u==0 with
 |false=>exact g
 |true=>
  rw [cond_true]
  have h0:gU S i c u=0:=by simpa using hb
  have hh:ez S i=true:=by
   cases hb2:ez S i with
   |true=>rfl
   |false=>simp [gU,hb2] at h0
  exact {
   nd:=g.nd
   few:=g.few
   gone:=λz hz=>by
    have hzi:(z==i)=false∧(i==z)=false:=by
     by_cases e:z=i
     ·subst e
      unfold ez at hh
      rw [hz] at hh;cases hh
     ·exact ⟨by simpa using e,by simpa using λe2=>e e2.symm⟩
    simp only [jY,hzi.1,hzi.2,cond_false]
    exact g.gone z hz}
theorem Kt:∀ro ys T K,FN RiD ro ys T K→VCx prog ae ro xS ys T K:=by
 intro ro ys T K h
 unfold FN at h
 split at h
 ·rename_i i c u m h14
  obtain ⟨⟨rfl,hm⟩,hk⟩:=h
  refine FS (xs:= [.ptr 0 0,.val (.int .i64 i),.val (.int .i64 c),.val (.int .i64 u)]) rfl h14 hm (λS R g=>(GY g i c u).mono ?_) hk
  rintro x T' ⟨z,mz,rfl,rfl,_,rfl⟩
  exact ⟨z,_,rfl,rfl,_,_,G0 g _ _ _,rfl⟩
 ·exact h.elim
theorem FT:∀ro ys T K,uU UiD ro ys T K→VCx prog ae ro xG ys T K:=by
 intro ro ys T K h
 unfold uU at h
 split at h
 ·rename_i p s d sp dp b m h12
  obtain ⟨⟨rfl,hm⟩,hk⟩:=h
  have hr:=hm.ren
  obtain ⟨L,c,g,hL,rfl⟩:=hm
  refine (xZ bc h12 rfl hr (xs:= [.ptr 0 0,.agg (bo (p,s,d,sp,dp)),.val (.int .i64 b),.val (.int .i64 0)]) rfl (R:=λx o'=>(∃(e:En) (q:Bool),x=.tup [.agg (aP e),.val (.bool q)])∧UiD o') (λx o' h=>⟨by obtain ⟨⟨e,q,rfl⟩,_⟩:=h;exact λ_ _=>rfl,h.2.ren⟩) ((IF c g L hL (p,s,d,sp,dp) b).mono ?_)).mono ?_
  ·rintro x T' ⟨e,q,L',c',g',rfl,hL',rfl⟩
   exact ⟨_,⟨⟨e,q,rfl⟩,L',c',g',hL',rfl⟩,rfl⟩
  ·rintro x T' ⟨o',⟨⟨e,q,rfl⟩,h⟩,rfl⟩
   exact hk e q o' h
 ·exact h.elim
structure mw (w:Wd):Prop where
 B:∃l:List Bk,w.B=l.map aA∧l.length≤40
 U:∃l:List Bool,w.U=l.map λb=> [.val (.bool b)]
 D:∃l:List Bool,w.D=l.map λb=> [.val (.bool b)]
 S:∃l:List Bk,w.S=l.map aA∧l.length≤40
 C:∃l:List Int,w.C=l.map λz=> [.val (.int .i64 z)]
 F:∃l:List Fl,w.F=l.map bo∧l.length≤100
 W:∃l:List Int,w.W=l.map λz=> [.val (.int .i64 z)]
theorem eR {α:Type}(c:α→List TV)(hc:∀a f g,ay f g (c a)=c a)(f g:Nat→Option Nat):∀l:List α,bT f g (l.map c)=l.map c
 |[]=>rfl
 |a::l=>by simp only [map_cons,bT,hc,eR c hc f g l]
theorem Dh {w:Wd}(h:mw w)(f g:Nat→Option Nat):VO.ren f g (.cells w.cells)=.cells w.cells:=by
 obtain ⟨lB,hB,_⟩:=h.B
 obtain ⟨lU,hU⟩:=h.U
 obtain ⟨lD,hD⟩:=h.D
 obtain ⟨lS,hS,_⟩:=h.S
 obtain ⟨lC,hC⟩:=h.C
 obtain ⟨lF,hF,_⟩:=h.F
 obtain ⟨lW,hW⟩:=h.W
 simp only [Wd.cells,VO.ren,ay,TV.ren,Tok.ren,hB,hU,hD,hS,hC,hF,hW,eR aA (λ_ _ _=>rfl),eR bo (λ_ _ _=>rfl),eR (λb:Bool=> [TV.val (.bool b)]) (λ_ _ _=>rfl),eR (λz:Int=> [TV.val (.int .i64 z)]) (λ_ _ _=>rfl)]
def uc (o:Nat→VO):Prop:=∀i,i<7→∀f g:Nat→Option Nat,(o i).ren f g=o i
section
variable {o:Nat→VO}{w:Wd}{n:Int}{pm sm rm u q r:VO}
theorem s7 (ho:uc o)(hw:mw w)(hp:∀f g,pm.ren f g=pm)(hs:∀f g,sm.ren f g=sm)(hrm:∀f g,rm.ren f g=rm)(hu:∀f g,u.ren f g=u)(hq:∀f g,q.ren f g=q)(hr:∀f g,r.ren f g=r):fI (eW o w n pm sm rm u q r):=by
 intro i hi f g h16
 match i,hi with
 | 0,_=>exact ho 0 (by decide) f g
 | 1,_=>exact ho 1 (by decide) f g
 | 2,_=>exact Dh hw f g
 | 3,_=>rfl
 | 4,_=>exact ho 4 (by decide) f g
 | 5,_=>exact ho 5 (by decide) f g
 | 6,_=>exact ho 6 (by decide) f g
 | 7,_=>exact hp f g
 | 8,_=>simp only [eW,VO.ren,ay,TV.ren,h16 7 (by decide)]
 | 9,_=>exact hs f g
 | 10,_=>exact hrm f g
 | 11,_=>simp only [eW,VO.ren,ay,TV.ren,h16 9 (by decide),h16 10 (by decide)]
 | 12,_=>exact hu f g
 | 13,_=>exact hq f g
 | 14,_=>exact hr f g
 | 15,_=>simp only [eW,bO,VO.ren,ay,TV.ren,h16 6 (by decide),h16 8 (by decide),h16 11 (by decide),h16 12 (by decide),h16 13 (by decide),h16 14 (by decide)]
 |k+16,hi=>omega
theorem K2:FlS 0 zC (λ_=>none) [] (λ_=>.gone) where
 hn:=zero_le _
 ring:=λp hp=>by
  have:p=4:=by unfold co at hp;omega
  subst this
  exact ⟨((0,0,0,0,0),0,0),4,4,rfl,.inl rfl,.inl rfl⟩
 none:=λ_ _=>rfl
 map:=λ_ _ h=>by cases h
 ents:=λ_ h=>by cases h
theorem I2 {O:Nat→VO}{rg:VO}{lk:Value→Option TV}{es:Es}{ck:Nat}{now came went:Int}{x:Nat→VO}{n:Nat}(h:FlS n rg lk es x)(ho:fI O)(f g:Nat→Option Nat)(hf:∀j,j<16+n→f j=some j):(cR O rg lk es ck now came went).map (VO.ren f g)=cR O rg lk es ck now came went:=by
 have h1:=pA (ck:=ck) (now:=now) (came:=came) (went:=went) h ho f g hf
 have h2:=congrArg (List.take 16) h1
 rw [map_append,take_left' (by rw [length_map,bD]),take_left' bD] at h2
 exact h2
theorem zD (hO:fI (eW o w n pm sm rm u q r))(l:List VO):VT.keep ⟨cR (eW o w n pm sm rm u q r) zC (λ_=>none) [] 0 0 0 0++l,[]⟩ 16 0=iS o w n pm sm rm u q r:=by
 simp only [VT.keep,iS]
 rw [take_left' bD,I2 K2 hO _ _ λj hj=>jh (by omega)]
 rfl
theorem rF {t e:TypeId}{x i:Operand}{l:List (Nat × TV)}{L:List (List TV)}{tok:Tok}{k:IntKind}{z:Int}{a:List TV}{inf:TypeInfo}{m:Nat}(ht:prog.underlying t=some (.slice e))(hi:prog.info? e=some inf)(hm:inf.size=m)(hx:au ae l x=.vec m L tok)(hz:au ae l i=.val (.int k z))(h0:0≤z)(he:L[z.toNat]?=some a):aI prog ae (.indexAddr t x i) l (.elt a):=
 dH (inf:=inf) ht hi (by rw [hm];exact hx) hz h0 he
theorem I3:∃inf:TypeInfo,prog.info? 4=some inf∧inf.size=1:=⟨(prog.info? 4).getD default,by kernel_rfl,by kernel_rfl⟩
theorem gH {x i:Operand}{l:List (Nat × TV)}{L:List (List TV)}{tok:Tok}{k:IntKind}{z:Int}{a:List TV}(hx:au ae l x=.vec 1 L tok)(hz:au ae l i=.val (.int k z))(h0:0≤z)(he:L[z.toNat]?=some a):aI prog ae (.indexAddr 23 x i) l (.elt a):=by
 obtain ⟨inf,i1,i2⟩:=I3
 exact rF Tryz.underlying23 i1 i2 hx hz h0 he
theorem EP {x i:Operand}{l:List (Nat × TV)}{L:List (List TV)}{tok:Tok}{k:IntKind}{z:Int}{a:List TV}(hx:au ae l x=.vec 3 L tok)(hz:au ae l i=.val (.int k z))(h0:0≤z)(he:L[z.toNat]?=some a):aI prog ae (.indexAddr 24 x i) l (.elt a):=by
 obtain ⟨inf,i1,i2,_⟩:=nG
 exact rF Tryz.underlying24 i1 i2 hx hz h0 he
theorem pF {m:Nat}{B:Bs}(hB:∀f g,bT f g B=B)(f g:Nat→Option Nat)(hf:f 2=some 2∧f 3=some 3∧f 15=some 15)(j:Int):ay f g (mV m B j)=mV m B j:=by
 simp only [mV,ay,TV.ren,hf.1,hf.2.1,hf.2.2,hB,Tok.ren]
theorem pG (l:List Bk)(f g:Nat→Option Nat):bT f g (l.map aA)=l.map aA:=eR aA (λ_ _ _=>rfl) f g l
theorem Di:ai 16 2=some 2∧ai 16 3=some 3∧ai 16 15=some 15:=⟨rfl,rfl,rfl⟩
theorem G1 (ho:uc o)(hw:mw w)(n:Int):∀T,T=iS o w n de de de IX (.cells [.val (.int .i64 n),nR]) (.cells [nR])→∀K:KX,(∀pm q u r,PiD pm→QiD n q→UiD u→RiD r→K .normal (ax 169 vl (mV 3 w.B w.B.length)) (IY T pm q u r) [])→VWx prog ae none 0 (av prog ej 0) (ax 169 vl (mV 3 w.B 0)) T [] K:=by
 rintro T rfl K hK
 obtain ⟨lB,hB,hlB⟩:=hw.B
 obtain ⟨lU,hU⟩:=hw.U
 obtain ⟨lD,hD⟩:=hw.D
 have p0:PiD de:=⟨λ_=>none,[],0,[],[],rfl,{m:={look:=rfl,ents:=rfl,slen:=rfl,nd:=nodup_nil,ids:=(by simp),born:=(by simp),borns:=nodup_nil},ok:={few:=zero_le _,nd:=nodup_nil,wt:=(by simp)}}⟩
 have q0:QiD n (jL n []):=⟨[],zero_le _,rfl⟩
 have u0:UiD (uO 0 [] 0 0):=⟨[],0,0,zero_le _,rfl⟩
 have r0:RiD (mO []):=⟨[],λ_=>none,{nd:=nodup_nil,few:=zero_le _,gone:=λ_ _=>rfl},by simp [bk,bC,bU]⟩
 have hx:∀f g,VO.ren f g de=de:=p0.ren
 refine VWx.nilAt (i:=13) (j:=1) (size:=5) rfl rfl (VWx.nilAt (i:=12) (j:=3) (size:=7) rfl rfl (VWx.nilAt (i:=14) (j:=0) (size:=5) rfl rfl ?_))
 show VWx prog ae none 0 (av prog ej 0) (ax 169 vl (mV 3 w.B 0)) (iS o w n de de de (uO 0 [] 0 0) (jL n []) (mO [])) [] K
 refine fc (ι:=Nat × VO × VO) (f:=ej) (id:=0) (by kernel_rfl) 169 vl (λs=>lB.length-s.1) (λs=>mV 3 w.B s.1) (λs=>iS o w n s.2.1 de de (uO 0 [] 0 0) s.2.2 (mO [])) (λs=>s.1≤lB.length∧PiD s.2.1∧QiD n s.2.2) 16 0 (λ_ _=>⟨le_refl _,le_refl _⟩)
  (λe vs T=>e=.normal∧vs=mV 3 w.B w.B.length∧∃pm q,PiD pm∧QiD n q∧T=iS o w n pm de de (uO 0 [] 0 0) q (mO [])) (λs hs=> ?_) (0,de,jL n []) ⟨zero_le _,p0,q0⟩ K (λe vs T hq=> ?_)
 ·obtain ⟨j,pm,q⟩:=s
  obtain ⟨hj,hp,hq⟩:=hs
  simp only at hj hp hq
  have hC:aT prog ae (aE [(Ca,FG PiD),(Cd,vj PiD),(Ce,vj PiD),(pu,FH (QiD n)),(CB,vk (QiD n)),(CC,vk (QiD n))]):=aJ λp hp=>by
   simp only [mem_cons,not_mem_nil,or_false] at hp
   rcases hp with rfl | rfl | rfl | rfl | rfl | rfl
   ·exact I1
   ·exact Km
   ·exact Kn
   ·exact Ko n
   ·exact Lr n
   ·exact Ls n
  have hlen:w.B.length=lB.length:=by rw [hB,length_map]
  by_cases hlt:j<lB.length
  ·obtain ⟨b,hb⟩:∃b,lB[j]?=some b:=⟨_,getElem?_eq_getElem hlt⟩
   have hwr:=fL j (by omega)
   have hb':w.B[j]?=some (aA b):=by rw [hB,getElem?_map,hb];rfl
   have fin:∀pm q,PiD pm→QiD n q→∀l,qb 169 0 (λs:Nat × VO × VO=>lB.length-s.1) (λs=>mV 3 w.B s.1) (λs=>iS o w n s.2.1 de de (uO 0 [] 0 0) s.2.2 (mO [])) (λs=>s.1≤lB.length∧PiD s.2.1∧QiD n s.2.2) 16 0 (j,pm,q) (λe vs T=>e=.normal∧vs=mV 3 w.B w.B.length∧∃pm q,PiD pm∧QiD n q∧T=iS o w n pm de de (uO 0 [] 0 0) q (mO [])) .normal (mV 3 w.B (wrap i64 ((j:Int)+1))) ⟨cR (eW o w n pm de de (uO 0 [] 0 0) q (mO [])) zC (λ_=>none) [] 0 0 0 0++l,[]⟩ [] 169:=λpm q hp hq l=>by
    refine ⟨rfl,rfl,(j+1,pm,q),⟨hlt,hp,hq⟩,by simp only;omega,.inr ⟨?_,?_⟩⟩
    ·exact zD (s7 ho hw hp.ren hx hx u0.ren hq.ren r0.ren) l
    ·rw [hwr,hB]
     exact pF (pG lB) _ _ Di _
   obtain ⟨b1,hb1⟩:∃b1,j<w.U.length→w.U[j]?=some [.val (.bool b1)]:=by
    by_cases h:j<lU.length
    ·exact ⟨lU[j],λ_=>by rw [hU,getElem?_map,getElem?_eq_getElem h];rfl⟩
    ·exact ⟨false,λh2=>by rw [hU,length_map] at h2;exact absurd h2 h⟩
   obtain ⟨b2,hb2⟩:∃b2,j<w.D.length→w.D[j]?=some [.val (.bool b2)]:=by
    by_cases h:j<lD.length
    ·exact ⟨lD[j],λ_=>by rw [hD,getElem?_map,getElem?_eq_getElem h];rfl⟩
    ·exact ⟨false,λh2=>by rw [hD,length_map] at h2;exact absurd h2 h⟩
   have hU1:decide ((j:Int)<(w.U.length:Int))=true→w.U[((j:Int)).toNat]?=some [.val (.bool b1)]:=λh=>by rw [toNat_natCast];exact hb1 (by simpa using h)
   have hD1:decide ((j:Int)<(w.D.length:Int))=true→w.D[((j:Int)).toNat]?=some [.val (.bool b2)]:=λh=>by rw [toNat_natCast];exact hb2 (by simpa using h)
   refine cj ah ag hC ak (FO o w n pm de de (uO 0 [] 0 0) q (mO []) PiD (QiD n) b1 b2 false b.1 b.2.1 b.2.2 j _) ?_
   refine aL (decide_eq_true (by rw [hlen];omega)) ⟨nM rfl rfl (natCast_nonneg _) (by rw [toNat_natCast];exact hb'),⟨rfl,hp⟩,λe1 m1 g1=>⟨⟨rfl,hq⟩,λe2 m2 g2=> ?_⟩⟩
   refine aM (λhu=>⟨gH rfl rfl (natCast_nonneg _) (hU1 hu),⟨rfl,g1⟩,λe3 m3 g3=>⟨gH rfl rfl (natCast_nonneg _) (hU1 hu),⟨rfl,g2⟩,λe4 m4 g4=> ?_⟩⟩) (λ_=> ?_)
   ·exact aM (λhd=>⟨gH rfl rfl (natCast_nonneg _) (hD1 hd),⟨rfl,g3⟩,λe5 m5 g5=>⟨gH rfl rfl (natCast_nonneg _) (hD1 hd),⟨rfl,g4⟩,λe6 m6 g6=>fin _ _ g5 g6 _⟩⟩) (λ_=>fin _ _ g3 g4 _)
   ·exact aM (λhd=>⟨gH rfl rfl (natCast_nonneg _) (hD1 hd),⟨rfl,g1⟩,λe5 m5 g5=>⟨gH rfl rfl (natCast_nonneg _) (hD1 hd),⟨rfl,g2⟩,λe6 m6 g6=>fin _ _ g5 g6 _⟩⟩) (λ_=>fin _ _ g1 g2 _)
  ·obtain rfl:j=lB.length:=by omega
   refine cj ah ag hC ak (FO o w n pm de de (uO 0 [] 0 0) q (mO []) PiD (QiD n) false false false 0 0 0 lB.length _) ?_
   exact az (decide_eq_false (by rw [hlen];omega)) ⟨rfl,rfl,rfl,by rw [←hlen];rfl,pm,q,hp,hq,rfl⟩
 ·obtain ⟨rfl,rfl,pm,q,hp,hq,rfl⟩:=hq
  exact hK pm q _ _ hp hq u0 r0
theorem G2 (ho:uc o)(hw:mw w)(n:Int):∀T,(∃pm q u r,PiD pm∧QiD n q∧UiD u∧RiD r∧T=iS o w n pm de de u q r)→∀K:KX,(∀sm rm r,SiD sm rm→RiD r→K .normal (ax 169 xY (mV 3 w.S w.S.length)) (IZ T sm rm r) [])→VWx prog ae none 0 (av prog ej 2) (ax 169 xY (mV 3 w.S 0)) T [] K:=by
 rintro T ⟨pm,q,u,r,hp,hq,hu,hr,rfl⟩ K hK
 obtain ⟨lS,hS,hlS⟩:=hw.S
 obtain ⟨lC,hC'⟩:=hw.C
 have s0:SiD de de:=⟨λ_=>none,[],0,λ_=>none,[],0,[],λ_=>none,[],rfl,rfl,{look:=rfl,ents:=rfl,slen:=rfl,nd:=nodup_nil,ids:=(by simp),born:=(by simp),borns:=nodup_nil,few:=zero_le _},{get:=λ_=>rfl,sh:=λ_ _ h=>(by cases h),ents:=(by simp)}⟩
 refine fc (ι:=Nat × VO × VO × VO) (f:=ej) (id:=2) (by kernel_rfl) 169 xY (λs=>lS.length-s.1) (λs=>mV 3 w.S s.1) (λs=>iS o w n pm s.2.1 s.2.2.1 u q s.2.2.2) (λs=>s.1≤lS.length∧SiD s.2.1 s.2.2.1∧RiD s.2.2.2) 16 0 (λ_ _=>⟨le_refl _,le_refl _⟩)
  (λe vs T=>e=.normal∧vs=mV 3 w.S w.S.length∧∃sm rm r,SiD sm rm∧RiD r∧T=iS o w n pm sm rm u q r) (λs hs=> ?_) (0,de,de,r) ⟨zero_le _,s0,hr⟩ K (λe vs T hq=> ?_)
 ·obtain ⟨j,sm,rm,r⟩:=s
  obtain ⟨hj,hs,hr⟩:=hs
  simp only at hj hs hr
  have hC:aT prog ae (aE [(B5,FI SiD),(B6,FJ SiD),(lr,FL RiD),(xS,FN RiD)]):=aJ λp hp=>by
   simp only [mem_cons,not_mem_nil,or_false] at hp
   rcases hp with rfl | rfl | rfl | rfl
   ·exact Kq
   ·exact Kr
   ·exact Ks
   ·exact Kt
  have hlen:w.S.length=lS.length:=by rw [hS,length_map]
  by_cases hlt:j<lS.length
  ·obtain ⟨b,hb⟩:∃b,lS[j]?=some b:=⟨_,getElem?_eq_getElem hlt⟩
   have hwr:=fL j (by omega)
   have hb':w.S[j]?=some (aA b):=by rw [hS,getElem?_map,hb];rfl
   have fin:∀sm rm r,SiD sm rm→RiD r→∀l,qb 169 2 (λs:Nat × VO × VO × VO=>lS.length-s.1) (λs=>mV 3 w.S s.1) (λs=>iS o w n pm s.2.1 s.2.2.1 u q s.2.2.2) (λs=>s.1≤lS.length∧SiD s.2.1 s.2.2.1∧RiD s.2.2.2) 16 0 (j,sm,rm,r) (λe vs T=>e=.normal∧vs=mV 3 w.S w.S.length∧∃sm rm r,SiD sm rm∧RiD r∧T=iS o w n pm sm rm u q r) .normal (mV 3 w.S (wrap i64 ((j:Int)+1))) ⟨cR (eW o w n pm sm rm u q r) zC (λ_=>none) [] 0 0 0 0++l,[]⟩ [] 169:=λsm rm r hs hr l=>by
    refine ⟨rfl,rfl,(j+1,sm,rm,r),⟨hlt,hs,hr⟩,by simp only;omega,.inr ⟨?_,?_⟩⟩
    ·exact zD (s7 ho hw hp.ren hs.ren1 hs.ren2 hu.ren hq.ren hr.ren) l
    ·rw [hwr,hS]
     exact pF (pG lS) _ _ Di _
   obtain ⟨c,hc⟩:∃c:Int,j<w.C.length→w.C[j]?=some [.val (.int .i64 c)]:=by
    by_cases h:j<lC.length
    ·exact ⟨lC[j],λ_=>by rw [hC',getElem?_map,getElem?_eq_getElem h];rfl⟩
    ·exact ⟨0,λh2=>by rw [hC',length_map] at h2;exact absurd h2 h⟩
   have hC1:decide ((j:Int)<(w.C.length:Int))=true→w.C[((j:Int)).toNat]?=some [.val (.int .i64 c)]:=λh=>by rw [toNat_natCast];exact hc (by simpa using h)
   refine cj ah ag hC ak (FP o w n pm sm rm u q r SiD RiD b.1 b.2.1 b.2.2 c j _) ?_
   refine aL (decide_eq_true (by rw [hlen];omega)) ⟨EP rfl rfl (natCast_nonneg _) (by rw [toNat_natCast];exact hb'),⟨rfl,hs⟩,λe1 m1 k1 g1=>⟨⟨rfl,hr⟩,λe2 m2 g2=> ?_⟩⟩
   exact aM (λhu=>⟨ib rfl rfl (natCast_nonneg _) (hC1 hu),⟨rfl,g1⟩,λe3 m3 k3 g3=>⟨ib rfl rfl (natCast_nonneg _) (hC1 hu),⟨rfl,g2⟩,λe4 m4 g4=>fin _ _ _ g3 g4 _⟩⟩) (λ_=>fin _ _ _ g1 g2 _)
  ·obtain rfl:j=lS.length:=by omega
   refine cj ah ag hC ak (FP o w n pm sm rm u q r SiD RiD 0 0 0 0 lS.length _) ?_
   exact az (decide_eq_false (by rw [hlen];omega)) ⟨rfl,rfl,rfl,by rw [←hlen];rfl,sm,rm,r,hs,hr,rfl⟩
 ·obtain ⟨rfl,rfl,sm,rm,r,hs,hr,rfl⟩:=hq
  exact hK sm rm r hs hr
end
end
set_option maxRecDepth 100000
section
open Go.RowKit Go.Maps Go.Sort
section
variable {O:Nat→VO}{rg l:VO}{lk:Value→Option TV}{es:Es}{ck:Nat}{now came went:Int}{x:Nat→VO}{y:List VO}{m:Nat}
def fz (O:Nat→VO)(rg:VO)(lk:Value→Option TV)(es:Es)(ck:Nat)(now came went:Int)(x:Nat→VO)(m:Nat):VT:=⟨cR O rg lk es ck now came went++(List.range m).map x,[]⟩
theorem s8:(fz O rg lk es ck now came went x m).objs.length=16+m:=by simp only [fz,length_append,bD,length_map,length_range]
theorem ya (hm:m≤101)(hx:∀i,m≤i→x i=.gone):(fz O rg lk es ck now came went x m).pad (101-m)=fy O rg lk es ck now came went x []:=by
 simp only [VT.pad,fz,fy,append_nil,append_assoc]
 congr 2
 apply ext_getElem?
 intro i
 rcases lt_or_ge i m with h | h
 ·rw [List.getElem?_append_left (by simpa using h),mZ x i (by omega),getElem?_map,getElem?_range h];rfl
 ·rw [List.getElem?_append_right (by simpa using h),List.getElem?_replicate]
  simp only [length_map,length_range]
  rcases lt_or_ge i 101 with h2 | h2
  ·rw [mZ x i h2,if_pos (by omega),hx i h]
  ·rw [getElem?_eq_none (by rw [cE];exact h2),if_neg (by omega)]
theorem m9 (hm:m≤101):(fy O rg lk es ck now came went x y).objs.take (16+m)=cR O rg lk es ck now came went++(List.range m).map x:=by
 simp only [fy]
 rw [List.take_append,List.take_of_length_le (by rw [bD];omega),bD,show 16+m-16=m by omega,List.take_append,cE,show m-101=0 by omega,take_zero,append_nil]
 congr 1
 unfold ap
 rw [←map_take,List.take_range,Nat.min_eq_left hm]
theorem rG (h:FlS m rg lk es x)(hO:fI O):(fy O rg lk es ck now came went x y).give (List.range (16+m)) []=fz O rg lk es ck now came went x m:=by
 have hm:=h.hn
 have hf:∀j,j<16+m→am (List.range (16+m)) j=some j:=λj hj=>by
  have:=iz hj []
  rwa [append_nil] at this
 have e:=pA (ck:=ck) (now:=now) (came:=came) (went:=went) h hO (am (List.range (16+m))) (am []) hf
 have e2:=congrArg (List.take (16+m)) e
 rw [←map_take] at e2
 have e3:=m9 (O:=O) (rg:=rg) (lk:=lk) (es:=es) (ck:=ck) (now:=now) (came:=came) (went:=went) (x:=x) (y:= []) hm
 simp only [fy,append_nil] at e3
 rw [e3] at e2
 simp only [VT.give,fz,map_nil]
 congr 1
 rw [pz (VO.ren (am (List.range (16+m))) (am [])) .gone (16+m) _ (by rw [fw];omega),m9 hm]
 exact e2
theorem nT {T:VT}(hT:T.objs.length=16+m)(ht:T.tails= [])(hm:m≤101):sU T (fy O rg lk es ck now came went x y) (List.range (16+m)) []:=by
 refine ⟨nodup_range,nodup_nil,λi hi=> ?_,by simp,λj hj=> ?_,λj hj=> ?_⟩
 ·have:=mem_range.1 hi
  rw [fw];omega
 ·rw [hT] at hj;exact getElem?_range hj
 ·rw [ht] at hj;exact absurd hj (not_lt_zero j)
structure nU (m:Nat) (rg:VO) (lk:Value→Option TV) (es:Es) (x:Nat→VO) (l:VO):Prop where
 map:IQ m 121 lk es
 rest:∀i,m≤i→x i=.gone
 ring:fm (λq=>co m q∨q=121) (fy (λ_=>.gone) rg (λ_=>none) [] 0 0 0 0 x [.gone,.gone,.gone,.gone,l])
theorem Dj (hm:m<101)(h:nU m rg lk es x l)(hO:fI O)(b0 b1 b2 b3:VO):∃rg1 lk1 es1 x1,FlS (m+1) rg1 lk1 es1 x1∧
  (fy O rg lk es ck now came went x [b0,b1,b2,b3,l]).give (List.range (16+m)++ [121]) []=fz O rg1 lk1 es1 ck now came went x1 (m+1)∧(∀k,lk k=some (.ptr 121 0)→lk1 k=some (.ptr (16+m) 0))∧∃F G,x1 m=l.ren F G:=by
 let f:=am (List.range (16+m)++ [121])
 let g:=am []
 have hf:∀j,j<16+m→f j=some j:=λj hj=>iz hj [121]
 have hf2:f 121=some (16+m):=CR (by omega)
 have hp:∀q,(co m q∨q=121)→∃q',f q=some q'∧co (m+1) q':=λq hq=>by
  rcases hq with hq | rfl
  ·exact ⟨q,hf q (by unfold co at hq;omega),by unfold co at hq ⊢;omega⟩
  ·exact ⟨_,hf2,by unfold co;omega⟩
 have hl:∀q,(co m q∨q=121)→∃e a c,(fy (λ_=>.gone) rg (λ_=>none) [] 0 0 0 0 x [.gone,.gone,.gone,.gone,l]).objs[q]?=some (cW e a c)∧∃a' c',VO.ren f g (cW e a c)=cW e a' c'∧co (m+1) a'∧co (m+1) c':=λq hq=>by
  obtain ⟨e,a,c,h1,h2,h3⟩:=h.ring q hq
  obtain ⟨a',ha,ha'⟩:=hp a h2
  obtain ⟨c',hc,hc'⟩:=hp c h3
  refine ⟨e,a,c,h1,a',c',?_,ha',hc'⟩
  simp only [cW,dj,aP,iU,bo,bV,VO.ren,ay,List.cons_append,List.nil_append,TV.ren,ha,hc]
 refine ⟨rg.ren f g,λk=>(lk k).map (TV.ren f g),es.map λe=>(e.1,e.2.1.ren f g,e.2.2),λi=>if i<m then (x i).ren f g else if i=m then l.ren f g else .gone,?_,?_,λk hk=>by simp only [hk,map_some,TV.ren,hf2],f,g,by simp only [if_neg (lt_irrefl m),if_true]⟩
 ·refine {hn:=by omega,ring:=λq hq=> ?_,none:=λi hi=> ?_,map:=λk v hv=> ?_,ents:=λa ha=> ?_}
  ·rcases hq with rfl | ⟨h1,h2⟩
   ·obtain ⟨e,a,c,q1,a',c',q2,q3,q4⟩:=hl 4 (.inl (.inl rfl))
    rw [gG (by decide)] at q1
    have e1:rg=cW e a c:=by simpa [cR] using q1
    refine ⟨e,a',c',?_,q3,q4⟩
    unfold mr
    rw [gG (by decide),←q2,←e1];rfl
   ·obtain ⟨i,rfl⟩:∃i,q=16+i:=⟨q-16,by omega⟩
    by_cases hi:i<m
    ·obtain ⟨e,a,c,q1,a',c',q2,q3,q4⟩:=hl (16+i) (.inl (.inr ⟨by omega,by omega⟩))
     rw [gk (by omega)] at q1
     injection q1 with q1
     refine ⟨e,a',c',?_,q3,q4⟩
     unfold mr
     rw [gk (by omega),if_pos hi,q1,q2]
    ·have him:i=m:=by omega
     subst him
     obtain ⟨e,a,c,q1,a',c',q2,q3,q4⟩:=hl 121 (.inr rfl)
     rw [show (121:Nat)=117+4 from rfl,gY] at q1
     have e1:l=cW e a c:=by simpa using q1
     refine ⟨e,a',c',?_,q3,q4⟩
     unfold mr
     rw [gk (by omega),if_neg (lt_irrefl _),if_pos rfl,e1,q2]
  ·rw [if_neg (by omega),if_neg (by omega)]
  ·cases hk:lk k with
   |none=>simp only [hk,Option.map_none] at hv;cases hv
   |some u=>
    obtain ⟨p,hp',rfl⟩:=h.map.map k u hk
    simp only [hk,map_some] at hv
    injection hv with hv
    rcases hp' with ⟨i,hi,rfl⟩ | rfl
    ·exact ⟨i,by omega,by rw [←hv];simp only [TV.ren,hf (16+i) (by omega)]⟩
    ·exact ⟨m,by omega,by rw [←hv];simp only [TV.ren,hf2]⟩
  ·obtain ⟨a0,ha0,rfl⟩:=mem_map.1 ha
   obtain ⟨p,hp',e1⟩:=h.map.ents a0 ha0
   rcases hp' with ⟨i,hi,rfl⟩ | rfl
   ·exact ⟨i,by omega,by simp only [e1,TV.ren,hf (16+i) (by omega)]⟩
   ·exact ⟨m,by omega,by simp only [e1,TV.ren,hf2]⟩
 ·simp only [VT.give,fz,map_nil]
  congr 1
  have h16:∀j,j<16→f j=some j:=λj hj=>hf j (by omega)
  have o':=λi (hi:i<16)=>hO i hi f g h16
  have hA:(cR O rg lk es ck now came went).map (VO.ren f g)=cR O (rg.ren f g) (λk=>(lk k).map (TV.ren f g)) (es.map λe=>(e.1,e.2.1.ren f g,e.2.2)) ck now came went:=by
   simp only [cR,map_cons,map_nil,o' 0 (by decide),o' 1 (by decide),o' 2 (by decide),o' 3 (by decide),o' 7 (by decide),o' 8 (by decide),o' 9 (by decide),o' 10 (by decide),o' 11 (by decide),o' 12 (by decide),o' 13 (by decide),o' 14 (by decide),o' 15 (by decide)]
   simp only [VO.ren,l7,ay,TV.ren,h16 5 (by decide),h16 4 (by decide)]
  rw [map_append,pz (VO.ren f g) .gone (16+m) _ (by rw [fw];omega),m9 (by omega),map_append,hA]
  simp only [map_cons,map_nil]
  rw [show (fy O rg lk es ck now came went x [b0,b1,b2,b3,l]).objs[121]?=some l by rw [show (121:Nat)=117+4 from rfl,gY];rfl,append_assoc,List.range_succ,map_append]
  congr 1
  congr 1
  ·rw [List.map_map]
   refine List.map_congr_left λi hi=> ?_
   have:=mem_range.1 hi
   simp only [comp,if_pos this]
  ·simp only [map_cons,map_nil,if_neg (lt_irrefl m),getD_some,if_true]
   rfl
theorem yA {T:VT}(hT:T.objs.length=16+m)(ht:T.tails= [])(hm:m<101)(b0 b1 b2 b3 l:VO):sU T (fy O rg lk es ck now came went x [b0,b1,b2,b3,l]) (List.range (16+m)++ [121]) []:=by
 refine ⟨List.nodup_append.2 ⟨nodup_range,by simp,λa ha b hb e=> ?_⟩,nodup_nil,λi hi=> ?_,by simp,λj hj=> ?_,λj hj=> ?_⟩
 ·have:=mem_range.1 ha
  rw [mem_singleton.1 hb] at e;omega
 ·rw [fw]
  rcases List.mem_append.1 hi with hi | hi
  ·have:=mem_range.1 hi;omega
  ·rw [mem_singleton.1 hi];simp
 ·rw [hT] at hj
  rw [List.getElem?_append_left (by simpa using hj)]
  exact getElem?_range hj
 ·rw [ht] at hj;exact absurd hj (not_lt_zero j)
end
end
set_option maxRecDepth 100000
section
open Go.RowKit Go.Maps Go.Sort
section
variable {o O:Nat→VO}{rg:VO}{lk:Value→Option TV}{es:Es}{ck:Nat}{now came went:Int}{x:Nat→VO}{m:Nat}{w:Wd}
theorem FU (ck:Nat)(now came went:Int)(h:FlS m rg lk es x)(hO:fI O)(f:Fl)(b:Int):∀ro ys T K,fU O (.cells (bo f)) f b (λT=>T=fy O rg lk es ck now came went x [.cells (bo f)]) (FlS m) (nU m) ro ys T K→VCx prog ae ro ve ys T K:=by
 rintro ro ys T K ⟨⟨rfl,rfl,rfl⟩,hk1,hk2⟩
 have hz:t6 [VO.cells (bo f)]:=λz hz _ _=>by rw [mem_singleton.1 hz];rfl
 cases hl:lk (dw f) with
 |some v=>
  obtain ⟨i,hi,rfl⟩:=h.map _ v hl
  obtain ⟨rg3,x3,now3,h3,_,hv⟩:=GT (ck:=ck) (now:=now) (came:=came) (went:=went) (b:=b) (m:=0) h hO hz hi hl
  refine hv.mono ?_
  rintro r T' ⟨⟨en,q,rfl⟩,rfl⟩
  exact hk1 en q rg3 lk es ck now3 came went x3 h3
 |none=>
  obtain ⟨rg3,lk3,es3,ck3,now3,came3,went3,x3,l,b1,b2,b3,hmap,hg,_,hr,_,hv⟩:=EL (ck:=ck) (now:=now) (came:=came) (went:=went) (b:=b) (m:=0) h hO hz hl
  refine hv.mono ?_
  rintro r T' ⟨⟨en,q,rfl⟩,rfl⟩
  refine hk2 en q rg3 lk3 es3 ck3 now3 came3 went3 x3 b1 b2 b3 l ⟨hmap,hg,nP hr λq hq=> ?_⟩
  rcases hq with hq | rfl
  ·exact tZ h.hn hq
  ·rw [show (121:Nat)=117+4 from rfl,gY,gY];rfl
theorem EQ {x i:Operand}{l:List (Nat × TV)}{L:List (List TV)}{tok:Tok}{k:IntKind}{z:Int}{a:List TV}(hx:au ae l x=.vec 5 L tok)(hz:au ae l i=.val (.int k z))(h0:0≤z)(he:L[z.toNat]?=some a):aI prog ae (.indexAddr 26 x i) l (.elt a):=by
 obtain ⟨inf,i1,i2⟩:=CW
 exact rF Tryz.underlying26 i1 i2 hx hz h0 he
theorem yb (l:List Fl)(f g:Nat→Option Nat):bT f g (l.map bo)=l.map bo:=eR bo (λ_ _ _=>rfl) f g l
structure LpC where
 j:Nat
 m:Nat
 rg:VO
 lk:Value→Option TV
 es:Es
 ck:Nat
 now:Int
 came:Int
 went:Int
 x:Nat→VO
 u:VO
def LpC.T (s:LpC)(o:Nat→VO)(w:Wd)(n:Int)(pm sm rm q r:VO):VT:=fz (eW o w n pm sm rm s.u q r) s.rg s.lk s.es s.ck s.now s.came s.went s.x s.m
theorem na {m i:Nat}(h:i<m):am (List.range m) i=some i:=by
 have:=iz h []
 rwa [append_nil] at this
theorem G3 (ho:uc o)(hw:mw w)(n:Int):∀T,(∃pm q u r sm rm,PiD pm∧QiD n q∧UiD u∧RiD r∧SiD sm rm∧T=iS o w n pm sm rm u q r)→∀K:KX,(∀(rg u:VO) (lk:Value→Option TV) (es:Es) (ck:Nat) (now came went:Int) (x:Nat→VO),(∃m,m≤100∧FlS m rg lk es x)→UiD u→K .normal (ax 169 qS (mV 5 w.F w.F.length)) (I0 T rg (.map kF lk es ck) (l7 now came went) u x) [])→VWx prog ae none 0 (av prog ej 4) (ax 169 qS (mV 5 w.F 0)) T [] K:=by
 rintro T ⟨pm,q,u,r,sm,rm,hp,hq,hu,hr,hs,rfl⟩ K hK
 obtain ⟨lF,hF,hlF⟩:=hw.F
 obtain ⟨lW,hW⟩:=hw.W
 have hlen:w.F.length=lF.length:=by rw [hF,length_map]
 have hfix:∀u,UiD u→fI (eW o w n pm sm rm u q r):=λu hu=>s7 ho hw hp.ren hs.ren1 hs.ren2 hu.ren hq.ren hr.ren
 refine VWx.padQ ?_
 refine fc (ι:=LpC) (f:=ej) (id:=4) (by kernel_rfl) 169 qS (λs=>lF.length-s.j) (λs=>mV 5 w.F s.j) (λs=>s.T o w n pm sm rm q r) (λs=>s.j≤lF.length∧s.m≤s.j∧FlS s.m s.rg s.lk s.es s.x∧UiD s.u) 117 0 (λs h=>⟨by unfold LpC.T;rw [s8];have:=h.2.2.1.hn;omega,le_refl _⟩)
  (λe vs T=>e=.normal∧vs=mV 5 w.F w.F.length∧∃s:LpC,s.m≤100∧FlS s.m s.rg s.lk s.es s.x∧UiD s.u∧T=s.T o w n pm sm rm q r) (λs hs'=> ?_) ⟨0,0,zC,λ_=>none,[],0,0,0,0,λ_=>.gone,u⟩ ⟨zero_le _,le_refl _,K2,hu⟩ _ (λe vs T hq'=> ?_)
 ·obtain ⟨j,m,rg,lk,es,ck,now,came,went,x,u⟩:=s
  obtain ⟨hj,hmj,hf,hu⟩:=hs'
  simp only at hj hmj hf hu
  have hO:=hfix u hu
  have hm:=hf.hn
  have hT0:(LpC.T ⟨j,m,rg,lk,es,ck,now,came,went,x,u⟩ o w n pm sm rm q r).objs.length=16+m:=s8
  have r16:∀k,0<16+k:=λk=>by omega
  have nm:∀l:List Nat,am (List.range (16+m)++l) 2=some 2∧am (List.range (16+m)++l) 3=some 3∧am (List.range (16+m)++l) 15=some 15:=λl=>⟨iz (by omega) l,iz (by omega) l,iz (by omega) l⟩
  have nm0:am (List.range (16+m)) 2=some 2∧am (List.range (16+m)) 3=some 3∧am (List.range (16+m)) 15=some 15:=⟨na (by omega),na (by omega),na (by omega)⟩
  let LQ:=qb 169 4 (λs:LpC=>lF.length-s.j) (λs=>mV 5 w.F s.j) (λs=>s.T o w n pm sm rm q r) (λs=>s.j≤lF.length∧s.m≤s.j∧FlS s.m s.rg s.lk s.es s.x∧UiD s.u) 117 0 ⟨j,m,rg,lk,es,ck,now,came,went,x,u⟩ (λe vs T=>e=.normal∧vs=mV 5 w.F w.F.length∧∃s:LpC,s.m≤100∧FlS s.m s.rg s.lk s.es s.x∧UiD s.u∧T=s.T o w n pm sm rm q r)
  let T0:=LpC.T ⟨j,m,rg,lk,es,ck,now,came,went,x,u⟩ o w n pm sm rm q r
  let Q2:Exit→List TV→VT→List Nat→Nat→Prop:=λe vs T D k=>D= []∧∃is ks:List Nat,sU T0 T is ks∧LQ e (ay (am is) (am ks) vs) (T.give is ks) [] k
  refine VWx.pickT (VWx.pad (101-m) (VWx.mono (Q:=dl qS Q2) ?_ ?_))
  ·have hpad:VT.pad T0 (101-m)=fy (eW o w n pm sm rm u q r) rg lk es ck now came went x []:=ya hm hf.none
   show VWx prog ae none 0 (dh prog ej 4) (ax 169 qS (mV 5 w.F j)) (VT.pad T0 (101-m)) [] (dl qS Q2)
   rw [hpad]
   by_cases hlt:j<lF.length
   ·obtain ⟨f,hb⟩:∃b,lF[j]?=some b:=⟨_,getElem?_eq_getElem hlt⟩
    have hb':w.F[j]?=some (bo f):=by rw [hF,getElem?_map,hb];rfl
    have hwr:=fL j (by omega)
    have hC:∀b,aT prog ae (aE [(ve,fU (eW o w n pm sm rm u q r) (.cells (bo f)) f b (λT=>T=fy (eW o w n pm sm rm u q r) rg lk es ck now came went x [.cells (bo f)]) (FlS m) (nU m)),(xG,uU UiD)]):=λb=>aJ λp hp=>by
     simp only [mem_cons,not_mem_nil,or_false] at hp
     rcases hp with rfl | rfl
     ·exact FU ck now came went hf hO f b
     ·exact FT
    have fin1:∀rg lk es ck now came went x u y,FlS m rg lk es x→UiD u→Q2 .normal (mV 5 w.F (wrap i64 ((j:Int)+1))) (fy (eW o w n pm sm rm u q r) rg lk es ck now came went x y) [] 169:=λrg lk es ck now came went x u y hf hu=>by
     refine ⟨rfl,List.range (16+m),[],nT hT0 rfl hm,rfl,rfl,⟨j+1,m,rg,lk,es,ck,now,came,went,x,u⟩,⟨hlt,by simp only;omega,hf,hu⟩,by simp only;omega,.inl ⟨rG hf (hfix u hu),?_⟩⟩
     rw [hwr,hF]
     exact pF (yb lF) _ _ nm0 _
    have fin2:∀rg lk es ck now came went x u l b0 b1 b2 b3,nU m rg lk es x l→UiD u→Q2 .normal (mV 5 w.F (wrap i64 ((j:Int)+1))) (fy (eW o w n pm sm rm u q r) rg lk es ck now came went x [b0,b1,b2,b3,l]) [] 169:=λrg lk es ck now came went x u l b0 b1 b2 b3 hf hu=>by
     have hm1:m<101:=by omega
     obtain ⟨rg1,lk1,es1,x1,h1,e1,_⟩:=Dj (ck:=ck) (now:=now) (came:=came) (went:=went) hm1 hf (hfix u hu) b0 b1 b2 b3
     refine ⟨rfl,List.range (16+m)++ [121],[],yA hT0 rfl hm1 _ _ _ _ _,rfl,rfl,⟨j+1,m+1,rg1,lk1,es1,ck,now,came,went,x1,u⟩,⟨hlt,by simp only;omega,h1,hu⟩,by simp only;omega,.inl ⟨e1,?_⟩⟩
     rw [hwr,hF]
     exact pF (yb lF) _ _ (nm _) _
    obtain ⟨b,hb1⟩:∃b:Int,j<w.W.length→w.W[j]?=some [.val (.int .i64 b)]:=by
     by_cases h:j<lW.length
     ·exact ⟨lW[j],λ_=>by rw [hW,getElem?_map,getElem?_eq_getElem h];rfl⟩
     ·exact ⟨0,λh2=>by rw [hW,length_map] at h2;exact absurd h2 h⟩
    have hW1:decide ((j:Int)<(w.W.length:Int))=true→w.W[((j:Int)).toNat]?=some [.val (.int .i64 b)]:=λh=>by rw [toNat_natCast];exact hb1 (by simpa using h)
    refine cj ah ag (hC b) ak (FQ o rg lk es ck now came went x w n pm sm rm u q r UiD f b _ (FlS m) (nU m) j _) ?_
    refine aL (decide_eq_true (by rw [hlen];omega)) ⟨EQ rfl rfl (natCast_nonneg _) (by rw [toNat_natCast];exact hb'),?_⟩
    refine aM (λhh=>⟨ib rfl rfl (natCast_nonneg _) (hW1 hh),⟨rfl,rfl,rfl⟩,λen q2 rg2 lk2 es2 ck2 now2 came2 went2 x2 h2=>⟨ib rfl rfl (natCast_nonneg _) (hW1 hh),⟨rfl,hu⟩,λe3 q3 u3 hu3=>fin1 _ _ _ _ _ _ _ _ _ _ h2 hu3⟩,λen q2 rg2 lk2 es2 ck2 now2 came2 went2 x2 b1 b2 b3 l h2=>⟨ib rfl rfl (natCast_nonneg _) (hW1 hh),⟨rfl,hu⟩,λe3 q3 u3 hu3=>fin2 _ _ _ _ _ _ _ _ _ _ _ _ _ _ h2 hu3⟩⟩) (λ_=>fin1 _ _ _ _ _ _ _ _ _ _ hf hu)
   ·obtain rfl:j=lF.length:=by omega
    have hC:aT prog ae (aE [(ve,fU (eW o w n pm sm rm u q r) (.cells (bo (0,0,0,0,0))) (0,0,0,0,0) 0 (λT=>T=fy (eW o w n pm sm rm u q r) rg lk es ck now came went x [.cells (bo (0,0,0,0,0))]) (FlS m) (nU m)),(xG,uU UiD)]):=aJ λp hp=>by
     simp only [mem_cons,not_mem_nil,or_false] at hp
     rcases hp with rfl | rfl
     ·exact FU ck now came went hf hO (0,0,0,0,0) 0
     ·exact FT
    have fin0:Q2 (.exit 4) (mV 5 w.F lF.length) (fy (eW o w n pm sm rm u q r) rg lk es ck now came went x []) [] 169:=by
     refine ⟨rfl,List.range (16+m),[],nT hT0 rfl hm,rfl,rfl,rfl,?_,⟨lF.length,m,rg,lk,es,ck,now,came,went,x,u⟩,(by simp only;omega),hf,hu,rG hf hO⟩
     rw [hlen,hF]
     exact pF (yb lF) _ _ nm0 _
    refine cj ah ag hC ak (FQ o rg lk es ck now came went x w n pm sm rm u q r UiD (0,0,0,0,0) 0 _ (FlS m) (nU m) lF.length _) ?_
    exact az (decide_eq_false (by rw [hlen];omega)) fin0
  ·rintro e σ T D ⟨rfl,is,ks,hp,hq⟩
   exact ⟨rfl,is,ks,hp,(CS _ _ _ _ _).2 hq⟩
 ·obtain ⟨rfl,rfl,s,hm1,hf,hu,rfl⟩:=hq'
  refine ⟨101-s.m,?_⟩
  have hpad:VT.pad (s.T o w n pm sm rm q r) (101-s.m)=fy (eW o w n pm sm rm s.u q r) s.rg s.lk s.es s.ck s.now s.came s.went s.x []:=ya hf.hn hf.none
  rw [hpad]
  exact hK s.rg s.u s.lk s.es s.ck s.now s.came s.went s.x ⟨s.m,hm1,hf⟩ hu
end
end
set_option maxRecDepth 100000
section
open Go.RowKit Go.Maps Go.Sort
theorem Bc {P:Program}{G:aC}{t t2:TypeId}{x:Nat}{a r:Int}(hu:P.underlying t=some (.int .i64))(hr:i64.wrap (1+a)=r):aI P G (.binOp .add t (.const (.int .i64 1)) (.tmp x) t2) [(x,.val (.int .i64 a))] (.val (.int .i64 r)):=by
 subst hr
 refine ⟨?_⟩
 simp [aR,au,dL,EY,Aj,te,bM,eqGuard,binOp,hu,zU]
 rfl
def zE (pc:Int):Int:=wrap i64 (tmod (wrap u64 pc) (100:Int))
theorem I4 (pc:Int):0≤zE pc∧zE pc≤99:=by
 have h1:0≤u64.wrap pc:=by
  simp only [wrap,IntKind.bits,IntKind.signed]
  exact Int.emod_nonneg _ (by decide)
 have h2:0≤tmod (u64.wrap pc) 100:=Int.tmod_nonneg _ h1
 have h3:tmod (u64.wrap pc) 100<100:=Int.tmod_lt_of_pos _ (by decide)
 unfold zE
 rw [kG (by omega) (by omega)]
 omega
theorem Ku {n:Int}(h1:1≤n)(h2:n≤100):∀ro ys T K,ub n (Df n) 1 ro ys T K→VCx prog ae ro Dd ys T K:=by
 rintro ro ys T K ⟨⟨rfl,rfl⟩,hk⟩
 have hv:VCx prog ae 0 Dd [.val (.int .i64 n)] ⟨[],[]⟩ λx T'=>x=.ptr 1 0∧T'=⟨[de,.cells [.val (.int .i64 n),.map 0]],[]⟩:=
  an ah ag aw ak (Kk n _) (az (decide_eq_false (by omega)) (az (decide_eq_false (by omega)) ⟨rfl,rfl⟩))
 refine (VCx.lift [] [] bc nodup_nil nodup_nil (λk hk=>by simp at hk) (by simp) (λi hi=>by simp at hi) rfl hv (λx T' hq=>⟨zero_le _,zero_le _⟩)).mono ?_
 rintro x T' ⟨y,T2,⟨rfl,rfl⟩,rfl,rfl⟩
 have e:VT.back T [] [] ⟨[de,.cells [.val (.int .i64 n),.map 0]],[]⟩={T with objs:=T.objs++Df n T.objs.length}:=by
  simp [VT.back,aS,VO.ren,de,ay,TV.ren,aq,Df]
 have e2:TV.ren (aq T.objs.length []) (aq T.tails.length []) (.ptr 1 0)=.ptr (T.objs.length+1) 0:=by simp [TV.ren,aq]
 rw [e,e2];exact hk
theorem Kv {n:Int}(h1:1≤n)(h2:n≤100):∀ro ys T K,ub n (Dg n) 0 ro ys T K→VCx prog ae ro De ys T K:=by
 rintro ro ys T K ⟨⟨rfl,rfl⟩,hk⟩
 have hv:VCx prog ae 0 De [.val (.int .i64 n)] ⟨[],[]⟩ λx T'=>x=.ptr 0 0∧T'=⟨[.cells [.val (.int .i64 n),nR]],[]⟩:=
  an ah ag aw ak (Kl n _) (az (decide_eq_false (by omega)) (az (decide_eq_false (by omega)) ⟨rfl,rfl⟩))
 refine (VCx.lift [] [] bc nodup_nil nodup_nil (λk hk=>by simp at hk) (by simp) (λi hi=>by simp at hi) rfl hv (λx T' hq=>⟨zero_le _,zero_le _⟩)).mono ?_
 rintro x T' ⟨y,T2,⟨rfl,rfl⟩,rfl,rfl⟩
 have e:VT.back T [] [] ⟨[.cells [.val (.int .i64 n),nR]],[]⟩={T with objs:=T.objs++Dg n T.objs.length}:=by
  simp [VT.back,aS,VO.ren,nR,ay,TV.ren,Dg]
 have e2:TV.ren (aq T.objs.length []) (aq T.tails.length []) (.ptr 0 0)=.ptr (T.objs.length+0) 0:=by simp [TV.ren,aq]
 rw [e,e2];exact hk
def yc (o:Nat→VO)(w:Wd)(n:Int)(pm sm rm u q r:VO):Nat→VO:=λi=>match i with
 | 3=>bO
 |i=>eW o w n pm sm rm u q r i
def K3:TV:=.agg [.ptr 6 0,.ptr 8 0,.ptr 11 0,.ptr 12 0,.ptr 13 0,.ptr 14 0]
theorem G4 {o:Nat→VO}{w:Wd}{n:Int}{pm sm rm u q r:VO}(h:fI (eW o w n pm sm rm u q r)):fI (yc o w n pm sm rm u q r):=by
 intro i hi f g h16
 by_cases h3:i=3
 ·subst h3
  exact h 15 (by decide) f g h16
 ·have e:yc o w n pm sm rm u q r i=eW o w n pm sm rm u q r i:=by
   unfold yc
   split
   ·exact absurd rfl h3
   ·rfl
  rw [e]
  exact h i hi f g h16
structure Lt (o:Nat→VO) (w:Wd) (T:VT) (n:Int) (pm sm rm u q r rg:VO) (lk:Value→Option TV) (es:Es) (ck:Nat) (now came went:Int) (x:Nat→VO) (m:Nat):Prop where
 n1:1≤n
 n2:n≤100
 m1:m≤100
 hp:PiD pm
 hq:QiD n q
 hu:UiD u
 hr:RiD r
 hs:SiD sm rm
 hf:FlS m rg lk es x
 hT:T=fy (yc o w n pm sm rm u q r) rg lk es ck now came went x []
theorem I5 {o:Nat→VO}{w:Wd}(ho:uc o)(hw:mw w):VCx prog ae 0 ej [.agg w.cells] ⟨[o 0,o 1],[]⟩ λv T=>v=K3∧∃n pm sm rm u q r rg lk es ck now came went x m,Lt o w T n pm sm rm u q r rg lk es ck now came went x m:=by
 obtain ⟨p0,p1⟩:=I4 w.pc
 have hn:∃n:Int,n=1+zE w.pc:=⟨_,rfl⟩
 obtain ⟨n,hn⟩:=hn
 have h1:1≤n:=by omega
 have h2:n≤100:=by omega
 have hC:aT prog ae (aE [(Dd,ub n (Df n) 1),(De,ub n (Dg n) 0)]):=aJ λp hp=>by
  simp only [mem_cons,not_mem_nil,or_false] at hp
  rcases hp with rfl | rfl
  ·exact Ku h1 h2
  ·exact Kv h1 h2
 let P0:VT→Prop:=λT=>T=iS o w n de de de IX (.cells [.val (.int .i64 n),nR]) (.cells [nR])
 let P2:VT→Prop:=λT=>∃pm q u r,PiD pm∧QiD n q∧UiD u∧RiD r∧T=iS o w n pm de de u q r
 let P4:VT→Prop:=λT=>∃pm q u r sm rm,PiD pm∧QiD n q∧UiD u∧RiD r∧SiD sm rm∧T=iS o w n pm sm rm u q r
 have hL:dS prog ae (K1 o w n PiD (QiD n) RiD UiD SiD (λrg lk es x=>∃m,m≤100∧FlS m rg lk es x) P0 P2 P4 (av prog ej 0) (av prog ej 2) (av prog ej 4)):=cn λp hp=>by
  simp only [mem_cons,not_mem_nil,or_false] at hp
  rcases hp with rfl | rfl | rfl
  ·exact nS λT hT K hK=>G1 ho hw n T hT K hK
  ·exact nS λT hT K hK=>G2 ho hw n T hT K hK
  ·exact nS λT hT K hK=>G3 ho hw n T hT K λrg u lk es ck now came went x hx hu=>hK rg u lk es ck now came went x hx hu
 refine an ah ag hC hL (Kj o w n PiD (QiD n) RiD UiD SiD _ P0 P2 P4 _) ?_
 refine ⟨Bc Tryz.underlying3 (by rw [hn];exact kG (by have:=p0;unfold zE at this;omega) (by have:=p1;unfold zE at this;omega)),⟨rfl,rfl⟩,⟨rfl,rfl⟩,rfl,⟨rfl,rfl,rfl,rfl,rfl,rfl⟩,λpm q u r hp hq hu hr=>⟨rfl,⟨rfl,rfl,rfl,rfl,rfl,pm,q,u,r,hp,hq,hu,hr,rfl⟩,λsm rm r2 hs hr2=>⟨rfl,⟨rfl,rfl,rfl,rfl,rfl,pm,q,u,r2,sm,rm,hp,hq,hu,hr2,hs,rfl⟩,λrg u2 lk es ck now came went x hx hu2=> ?_⟩⟩⟩
 obtain ⟨m,hm,hx⟩:=hx
 exact ⟨rfl,n,pm,sm,rm,u2,q,r2,rg,lk,es,ck,now,came,went,x,m,h1,h2,hm,hp,hq,hu2,hr2,hs,hx,rfl⟩
end
abbrev FV:=8
abbrev FW:=37
abbrev FX:=38
abbrev FY:=40
abbrev oe:=3
abbrev ER:=6
abbrev Dk:=5
abbrev K4:=12
abbrev K5:=15
def rT (a b:VO)(y:Nat→VO)(l:List VO):VT:=⟨a::b::(ap y++(y 101::y 102::y 103::y 104::y 105::y 106::y 107::y 108::y 109::y 110::y 111::y 112::y 113::y 114::l)),[]⟩
def gl (ys0:List TV)(x0:TV)(Pre:VT→Prop):aZ:=λro ys T K=>(ro=0∧ys=ys0∧Pre T)∧K x0 T
def jO (k b s:Int)(n:Bool):List TV:= [.val (.int .i64 k),.val (.int .i64 b),.val (.int .i64 s),.val (.bool n)]
def dQ (f:Fl)(now:Int)(tun:Bool)(l:List VO):List VO:=.cells [.ptr 6 0]:: .cells [.ptr 8 0]:: .cells [.ptr 11 0]:: .cells (bo f):: .cells [.val (.int .i64 now)]:: .cells [.val (.bool tun)]:: .cells (jO 0 0 0 false):: .cells (jO 0 0 0 false)::l
def cX (v:Int × Int × Int × Bool):List TV:=jO v.1 v.2.1 v.2.2.1 v.2.2.2
def I6 (cs:List TV)(a b:VO)(R:(Nat→VO)→Prop):aZ:=λro ys T K=>(ro=0∧ys= [.agg cs]∧T=⟨[a,b],[]⟩)∧∀y:Nat→VO,R y→K K3 (rT a b y [])
def K6 (f:Fl)(now:Int)(tun:Bool)(Pre:List VO→Prop)(W:List VO→Int→Int→Int→Bool→Prop):aZ:=λro ys T K=>(ro=0∧ys= [.ptr 6 0,.ptr 8 0,.ptr 11 0,.agg (bo f),.val (.int .i64 now),.val (.bool tun)]∧Pre (T.objs.take 117))∧∀(k b s:Int) (n:Bool),W (T.objs.take 117) k b s n→K (.agg (jO k b s n)) T
def K7 (f:Fl)(Pre:List VO→Prop)(W:List VO→En→Bool→Prop):aZ:=λro ys T K=>(ro=0∧ys= [.ptr 6 0,.agg (bo f)]∧Pre (T.objs.take 117))∧∀(en:En) (k:Bool),W (T.objs.take 117) en k→K (.tup [.agg (aP en),.val (.bool k)]) T
def I7 (Pre:List VO→Prop)(W:List VO→Int→Bool→Prop):aZ:=λro ys T K=>match ys with
 | .ptr 8 0:: .val (.int .i64 z):: []=>(ro=0∧Pre (T.objs.take 117))∧∀u:Bool,W (T.objs.take 117) z u→K (.val (.bool u)) T
 |_=>aG 96 default ys
def I8 (Pre:List VO→Prop)(W:List VO→Int→Bk→Bool→Prop):aZ:=λro ys T K=>match ys with
 | .ptr 8 0:: .val (.int .i64 z):: []=>(ro=0∧Pre (T.objs.take 117))∧∀(v:Bk) (u:Bool),W (T.objs.take 117) z v u→K (.tup [.agg (eV v.1 v.2.1 v.2.2),.val (.bool u)]) T
 |_=>aG 96 default ys
def K8 (Pre:List VO→Prop)(W:List VO→Bool→Prop):aZ:=λro ys T K=>(ro=0∧ys= [.ptr 8 0]∧Pre (T.objs.take 117))∧∀u:Bool,W (T.objs.take 117) u→K (.val (.bool u)) T
def K9 (Pre:List VO→Prop)(W:List VO→Bs→Prop):aZ:=λro ys T K=>(ro=0∧ys= [.ptr 8 0]∧Pre (T.objs.take 117))∧∀L:Bs,W (T.objs.take 117) L→K (.vec 3 L .none) T
def La (now:Int)(Pre:List VO→Prop)(W:List VO→Bk→Bool→Prop):aZ:=λro ys T K=>(ro=0∧ys= [.ptr 11 0,.val (.int .i64 now)]∧Pre (T.objs.take 117))∧∀(v:Bk) (u:Bool),W (T.objs.take 117) v u→K (.tup [.agg (da v.1 v.2.1 v.2.2),.val (.bool u)]) T
def vm:List Nat:= [9,10,12,96,97,98]
def lw (key:Int)(q:Bool)(L:Bs)(j:Int):List TV:= [.val (.int .u64 key),.ptr 120 0,.val (.bool q),.vec 3 L .none,.val (.int .i64 L.length),.val (.int .i64 j)]
def I9 (key:Int)(Lp:Bs→VT→Prop):bH:=λrd ro σ T D K=>match pick vm σ with
 | .val (.int .u64 k):: .ptr p 0:: .val (.bool q):: .vec 3 L .none:: .val (.int .i64 l):: .val (.int .i64 j):: []=>(rd=none∧ro=0∧D= []∧beq σ.length 164=true∧k=key∧p=120∧q=false∧l=(L.length:Int)∧j=0∧Lp L T)∧K .normal (ax 164 vm (lw key true L L.length)) T []
 |_=>aG 97 default σ
def Lb (key:Int)(Lp:Bs→VT→Prop)(c0:Code):Nat→Option (bH × Code):=di [(0,I9 key Lp,c0)]
def dR (f:Fl)(now:Int)(tun:Bool):List TV:=bo f++ [.val (.int .i64 now),.val (.bool tun)]
def Lc (lt:Bool)(w:Wd)(f:Fl)(now:Int)(tun:Bool)(key:Int)(R:(Nat→VO)→Prop)(Pre:List VO→Prop)(WW:List VO→Int→Int→Int→Bool→Prop)(WF:List VO→En→Bool→Prop)(WU:List VO→Int→Bool→Prop)(WG:List VO→Int→Bk→Bool→Prop)(WQ:List VO→Bool→Prop)(WL:List VO→Bs→Prop)(WB:List VO→Bk→Bool→Prop):FuncId→Option aZ:=aE [(ER,sD),(Dk,fu [.agg w.cells] (.val (.bool lt))),(ej,I6 w.cells (.cells w.cells) (.cells (dR f now tun)) R),(FV,K6 f now tun Pre WW),(xM,K7 f Pre WF),(xh,I7 Pre WU),(Cc,I8 Pre WG),(xi,K8 Pre WQ),(K4,fu [.agg (bo f)] (.val (.int .u64 key))),(xj,K9 Pre WL),(u7,La now Pre WB)]
theorem Ja (o:Nat→VO)(rg:VO)(lk:Value→Option TV)(es:Es)(ck:Nat)(now came went:Int)(x:Nat→VO)(p:Nat)(f:Fl)(en:En)(Q:TV→VT→Prop):aK prog ae c9 (bw [(999998,.dead,none),(15,.ptr p 0,none),(24,.ptr p 0,none),(27,.agg (aP en),none)]) 300 bq 0 xM [.ptr 6 0,.agg (bo f)] (fy o rg lk es ck now came went x []) Q=
 (cT prog (λ_=>.none) ⟨[(o (0:Nat)),(o (1:Nat)),(o (2:Nat)),(o (3:Nat)),(rg),(.map ⟨true,[(.int .i64),(.int .u32),(.int .u32),(.int .i64),(.int .i64)]⟩ (lk) (es) (ck)),(.cells [(.val (.int .i64 20)),(.val (.int .i64 100)),(.val (.int .i64 (now))),(.map 5),(.ptr 4 0),(.val (.int .i64 (came))),(.val (.int .i64 (went)))]),(o (7:Nat)),(o (8:Nat)),(o (9:Nat)),(o (10:Nat)),(o (11:Nat)),(o (12:Nat)),(o (13:Nat)),(o (14:Nat)),(o (15:Nat))]++(ap x++ [(.cells [(.val (.int .i64 (fst f))),(.val (.int .u32 (fst (snd f)))),(.val (.int .u32 (fst (snd (snd f))))),(.val (.int .i64 (fst (snd (snd (snd f)))))),(.val (.int .i64 (snd (snd (snd (snd f))))))]),(.cells [(.val (.int .i64 0)),(.val (.int .u32 0)),(.val (.int .u32 0)),(.val (.int .i64 0)),(.val (.int .i64 0)),(.val (.int .i64 0)),(.val (.int .i64 0))])]),[]⟩ false (.lookup 97 (.tmp 13) (.tmp 14) false) [(13,(.map 5)),(14,(hZ (fst f) (fst (snd f)) (fst (snd (snd f))) (fst (snd (snd (snd f)))) (snd (snd (snd (snd f))))))] (cV p)∧
 (cT prog (λ_=>.none) ⟨[(o (0:Nat)),(o (1:Nat)),(o (2:Nat)),(o (3:Nat)),(rg),(.map ⟨true,[(.int .i64),(.int .u32),(.int .u32),(.int .i64),(.int .i64)]⟩ (lk) (es) (ck)),(.cells [(.val (.int .i64 20)),(.val (.int .i64 100)),(.val (.int .i64 (now))),(.map 5),(.ptr 4 0),(.val (.int .i64 (came))),(.val (.int .i64 (went)))]),(o (7:Nat)),(o (8:Nat)),(o (9:Nat)),(o (10:Nat)),(o (11:Nat)),(o (12:Nat)),(o (13:Nat)),(o (14:Nat)),(o (15:Nat))]++(ap x++ [(.cells [(.val (.int .i64 (fst f))),(.val (.int .u32 (fst (snd f)))),(.val (.int .u32 (fst (snd (snd f))))),(.val (.int .i64 (fst (snd (snd (snd f)))))),(.val (.int .i64 (snd (snd (snd (snd f))))))]),(.cells [(.val (.int .i64 0)),(.val (.int .u32 0)),(.val (.int .u32 0)),(.val (.int .i64 0)),(.val (.int .i64 0)),(.val (.int .i64 0)),(.val (.int .i64 0))])]),[]⟩ false (.lookup 97 (.tmp 22) (.tmp 23) false) [(22,(.map 5)),(23,(hZ (fst f) (fst (snd f)) (fst (snd (snd f))) (fst (snd (snd (snd f)))) (snd (snd (snd (snd f))))))] (cV p)∧
 (cT prog (λ_=>.none) ⟨[(o (0:Nat)),(o (1:Nat)),(o (2:Nat)),(o (3:Nat)),(rg),(.map ⟨true,[(.int .i64),(.int .u32),(.int .u32),(.int .i64),(.int .i64)]⟩ (lk) (es) (ck)),(.cells [(.val (.int .i64 20)),(.val (.int .i64 100)),(.val (.int .i64 (now))),(.map 5),(.ptr 4 0),(.val (.int .i64 (came))),(.val (.int .i64 (went)))]),(o (7:Nat)),(o (8:Nat)),(o (9:Nat)),(o (10:Nat)),(o (11:Nat)),(o (12:Nat)),(o (13:Nat)),(o (14:Nat)),(o (15:Nat))]++(ap x++ [(.cells [(.val (.int .i64 (fst f))),(.val (.int .u32 (fst (snd f)))),(.val (.int .u32 (fst (snd (snd f))))),(.val (.int .i64 (fst (snd (snd (snd f)))))),(.val (.int .i64 (snd (snd (snd (snd f))))))]),(.cells [(.val (.int .i64 0)),(.val (.int .u32 0)),(.val (.int .u32 0)),(.val (.int .i64 0)),(.val (.int .i64 0)),(.val (.int .i64 0)),(.val (.int .i64 0))])]),[]⟩ false (.load 49 (.tmp 26)) [(26,(cV p))] (wX (fst (fst en)) (fst (snd (fst en))) (fst (snd (snd (fst en)))) (fst (snd (snd (snd (fst en))))) (snd (snd (snd (snd (fst en))))) (fst (snd en)) (snd (snd en)))∧
 Q (.tup [(wX (fst (fst en)) (fst (snd (fst en))) (fst (snd (snd (fst en)))) (fst (snd (snd (snd (fst en))))) (snd (snd (snd (snd (fst en))))) (fst (snd en)) (snd (snd en))),fH]) ⟨[(o (0:Nat)),(o (1:Nat)),(o (2:Nat)),(o (3:Nat)),(rg),(.map ⟨true,[(.int .i64),(.int .u32),(.int .u32),(.int .i64),(.int .i64)]⟩ (lk) (es) (ck)),(.cells [(.val (.int .i64 20)),(.val (.int .i64 100)),(.val (.int .i64 (now))),(.map 5),(.ptr 4 0),(.val (.int .i64 (came))),(.val (.int .i64 (went)))]),(o (7:Nat)),(o (8:Nat)),(o (9:Nat)),(o (10:Nat)),(o (11:Nat)),(o (12:Nat)),(o (13:Nat)),(o (14:Nat)),(o (15:Nat))]++(ap x++ [(.cells [(.val (.int .i64 (fst f))),(.val (.int .u32 (fst (snd f)))),(.val (.int .u32 (fst (snd (snd f))))),(.val (.int .i64 (fst (snd (snd (snd f)))))),(.val (.int .i64 (snd (snd (snd (snd f))))))]),(.cells [(.val (.int .i64 (fst (fst en)))),(.val (.int .u32 (fst (snd (fst en))))),(.val (.int .u32 (fst (snd (snd (fst en)))))),(.val (.int .i64 (fst (snd (snd (snd (fst en))))))),(.val (.int .i64 (snd (snd (snd (snd (fst en))))))),(.val (.int .i64 (fst (snd en)))),(.val (.int .i64 (snd (snd en))))])]),[]⟩))):=by kernel_rfl
theorem Jb (o:Nat→VO)(rg:VO)(lk:Value→Option TV)(es:Es)(ck:Nat)(now came went:Int)(x:Nat→VO)(f:Fl)(Q:TV→VT→Prop):aK prog ae c9 (bw [(999998,.dead,none),(15,.val (.pointer none),none)]) 300 bq 0 xM [.ptr 6 0,.agg (bo f)] (fy o rg lk es ck now came went x []) Q=
 (cT prog (λ_=>.none) ⟨[(o (0:Nat)),(o (1:Nat)),(o (2:Nat)),(o (3:Nat)),(rg),(.map ⟨true,[(.int .i64),(.int .u32),(.int .u32),(.int .i64),(.int .i64)]⟩ (lk) (es) (ck)),(.cells [(.val (.int .i64 20)),(.val (.int .i64 100)),(.val (.int .i64 (now))),(.map 5),(.ptr 4 0),(.val (.int .i64 (came))),(.val (.int .i64 (went)))]),(o (7:Nat)),(o (8:Nat)),(o (9:Nat)),(o (10:Nat)),(o (11:Nat)),(o (12:Nat)),(o (13:Nat)),(o (14:Nat)),(o (15:Nat))]++(ap x++ [(.cells [(.val (.int .i64 (fst f))),(.val (.int .u32 (fst (snd f)))),(.val (.int .u32 (fst (snd (snd f))))),(.val (.int .i64 (fst (snd (snd (snd f)))))),(.val (.int .i64 (snd (snd (snd (snd f))))))]),(.cells [(.val (.int .i64 0)),(.val (.int .u32 0)),(.val (.int .u32 0)),(.val (.int .i64 0)),(.val (.int .i64 0)),(.val (.int .i64 0)),(.val (.int .i64 0))])]),[]⟩ false (.lookup 97 (.tmp 13) (.tmp 14) false) [(13,(.map 5)),(14,(hZ (fst f) (fst (snd f)) (fst (snd (snd f))) (fst (snd (snd (snd f)))) (snd (snd (snd (snd f))))))] (.val (.pointer .none))∧
 Q Ec ⟨[(o (0:Nat)),(o (1:Nat)),(o (2:Nat)),(o (3:Nat)),(rg),(.map ⟨true,[(.int .i64),(.int .u32),(.int .u32),(.int .i64),(.int .i64)]⟩ (lk) (es) (ck)),(.cells [(.val (.int .i64 20)),(.val (.int .i64 100)),(.val (.int .i64 (now))),(.map 5),(.ptr 4 0),(.val (.int .i64 (came))),(.val (.int .i64 (went)))]),(o (7:Nat)),(o (8:Nat)),(o (9:Nat)),(o (10:Nat)),(o (11:Nat)),(o (12:Nat)),(o (13:Nat)),(o (14:Nat)),(o (15:Nat))]++(ap x++ [(.cells [(.val (.int .i64 (fst f))),(.val (.int .u32 (fst (snd f)))),(.val (.int .u32 (fst (snd (snd f))))),(.val (.int .i64 (fst (snd (snd (snd f)))))),(.val (.int .i64 (snd (snd (snd (snd f))))))]),(.cells [(.val (.int .i64 0)),(.val (.int .u32 0)),(.val (.int .u32 0)),(.val (.int .i64 0)),(.val (.int .i64 0)),(.val (.int .i64 0)),(.val (.int .i64 0))])]),[]⟩):=by kernel_rfl
theorem Kw (a b:VO)(y:Nat→VO)(f:Fl)(now:Int)(tun:Bool)(Pre:VT→Prop)(en:En)(k u:Bool)(Q:TV→VT→Prop):aK prog ae (aE [(xM,gl [.ptr 6 0,.agg (bo f)] (.tup [.agg (aP en),.val (.bool k)]) Pre),(xh,gl [.ptr 8 0,.val (.int .i64 en.2.1)] (eF u) Pre)]) (bw [(999998,.dead,none)]) 300 bq 0 FW [.ptr 117 0,.ptr 120 0,.ptr 118 0] (rT a b y (dQ f now tun [])) Q=
 (((@Eq (Nat) 0 0)∧
 ((@Eq (List TV) (AG (fst f) (fst (snd f)) (fst (snd (snd f))) (fst (snd (snd (snd f)))) (snd (snd (snd (snd f))))) (AG (fst f) (fst (snd f)) (fst (snd (snd f))) (fst (snd (snd (snd f)))) (snd (snd (snd (snd f))))))∧
 Pre ⟨[(a),(b)]++(ap y++ [(y (101:Nat)),(y (102:Nat)),(y (103:Nat)),(y (104:Nat)),(y (105:Nat)),(y (106:Nat)),(y (107:Nat)),(y (108:Nat)),(y (109:Nat)),(y (110:Nat)),(y (111:Nat)),(y (112:Nat)),(y (113:Nat)),(y (114:Nat)),(.cells [(.ptr 6 0)]),(.cells [(.ptr 8 0)]),(.cells [(.ptr 11 0)]),(.cells [(.val (.int .i64 (fst f))),(.val (.int .u32 (fst (snd f)))),(.val (.int .u32 (fst (snd (snd f))))),(.val (.int .i64 (fst (snd (snd (snd f)))))),(.val (.int .i64 (snd (snd (snd (snd f))))))]),(.cells [(.val (.int .i64 (now)))]),(.cells [(.val (.bool (tun)))]),(.cells [(.val (.int .i64 0)),(.val (.int .i64 0)),(.val (.int .i64 0)),(.val (.bool false))]),(.cells [(.val (.int .i64 0)),(.val (.int .i64 0)),(.val (.int .i64 0)),(.val (.bool false))]),(.cells [(.val (.int .i64 0)),(.val (.int .i64 0)),(.val (.int .i64 0)),(.val (.bool false))])]),[]⟩))∧
 (bif k
 then (((@Eq (Nat) 0 0)∧
 ((@Eq (List TV) [jb,(ar (fst (snd en)))] [jb,(ar (fst (snd en)))])∧
 Pre ⟨[(a),(b)]++(ap y++ [(y (101:Nat)),(y (102:Nat)),(y (103:Nat)),(y (104:Nat)),(y (105:Nat)),(y (106:Nat)),(y (107:Nat)),(y (108:Nat)),(y (109:Nat)),(y (110:Nat)),(y (111:Nat)),(y (112:Nat)),(y (113:Nat)),(y (114:Nat)),(.cells [(.ptr 6 0)]),(.cells [(.ptr 8 0)]),(.cells [(.ptr 11 0)]),(.cells [(.val (.int .i64 (fst f))),(.val (.int .u32 (fst (snd f)))),(.val (.int .u32 (fst (snd (snd f))))),(.val (.int .i64 (fst (snd (snd (snd f)))))),(.val (.int .i64 (snd (snd (snd (snd f))))))]),(.cells [(.val (.int .i64 (now)))]),(.cells [(.val (.bool (tun)))]),(.cells [(.val (.int .i64 0)),(.val (.int .i64 0)),(.val (.int .i64 0)),(.val (.bool false))]),(.cells [(.val (.int .i64 0)),(.val (.int .i64 0)),(.val (.int .i64 0)),(.val (.bool false))]),(.cells [(.val (.int .i64 0)),(.val (.int .i64 0)),(.val (.int .i64 0)),(.val (.bool false))]),(.cells [(.val (.int .i64 (fst (fst en)))),(.val (.int .u32 (fst (snd (fst en))))),(.val (.int .u32 (fst (snd (snd (fst en)))))),(.val (.int .i64 (fst (snd (snd (snd (fst en))))))),(.val (.int .i64 (snd (snd (snd (snd (fst en))))))),(.val (.int .i64 (fst (snd en)))),(.val (.int .i64 (snd (snd en))))])]),[]⟩))∧
 (((@Eq (Option TV) (.some (ar (fst (snd en)))) (.some (ar (fst (snd en)))))∧
 ((@Eq (Option TV) (.some jb) (.some jb))∧
 ((@Eq (Option TV) (.some (ar (fst (snd en)))) (.some (ar (fst (snd en)))))∧
 True)))∧
 Q (.tup [(Hq (fst (snd en))),(eF u)]) ⟨[(a),(b)]++(ap y++ [(y (101:Nat)),(y (102:Nat)),(y (103:Nat)),(y (104:Nat)),(y (105:Nat)),(y (106:Nat)),(y (107:Nat)),(y (108:Nat)),(y (109:Nat)),(y (110:Nat)),(y (111:Nat)),(y (112:Nat)),(y (113:Nat)),(y (114:Nat)),(.cells [(.ptr 6 0)]),(.cells [(.ptr 8 0)]),(.cells [(.ptr 11 0)]),(.cells [(.val (.int .i64 (fst f))),(.val (.int .u32 (fst (snd f)))),(.val (.int .u32 (fst (snd (snd f))))),(.val (.int .i64 (fst (snd (snd (snd f)))))),(.val (.int .i64 (snd (snd (snd (snd f))))))]),(.cells [(.val (.int .i64 (now)))]),(.cells [(.val (.bool (tun)))]),(.cells [(.val (.int .i64 0)),(.val (.int .i64 0)),(.val (.int .i64 0)),(.val (.bool false))]),(.cells [(.val (.int .i64 0)),(.val (.int .i64 0)),(.val (.int .i64 0)),(.val (.bool false))]),(.cells [(.val (.int .i64 1)),(.val (.int .i64 (fst (snd en)))),(.val (.int .i64 0)),(.val (.bool true))]),(.cells [(.val (.int .i64 (fst (fst en)))),(.val (.int .u32 (fst (snd (fst en))))),(.val (.int .u32 (fst (snd (snd (fst en)))))),(.val (.int .i64 (fst (snd (snd (snd (fst en))))))),(.val (.int .i64 (snd (snd (snd (snd (fst en))))))),(.val (.int .i64 (fst (snd en)))),(.val (.int .i64 (snd (snd en))))])]),[]⟩))
 else Q (.tup [(Hq (fst (snd en))),bX]) ⟨[(a),(b)]++(ap y++ [(y (101:Nat)),(y (102:Nat)),(y (103:Nat)),(y (104:Nat)),(y (105:Nat)),(y (106:Nat)),(y (107:Nat)),(y (108:Nat)),(y (109:Nat)),(y (110:Nat)),(y (111:Nat)),(y (112:Nat)),(y (113:Nat)),(y (114:Nat)),(.cells [(.ptr 6 0)]),(.cells [(.ptr 8 0)]),(.cells [(.ptr 11 0)]),(.cells [(.val (.int .i64 (fst f))),(.val (.int .u32 (fst (snd f)))),(.val (.int .u32 (fst (snd (snd f))))),(.val (.int .i64 (fst (snd (snd (snd f)))))),(.val (.int .i64 (snd (snd (snd (snd f))))))]),(.cells [(.val (.int .i64 (now)))]),(.cells [(.val (.bool (tun)))]),(.cells [(.val (.int .i64 0)),(.val (.int .i64 0)),(.val (.int .i64 0)),(.val (.bool false))]),(.cells [(.val (.int .i64 0)),(.val (.int .i64 0)),(.val (.int .i64 0)),(.val (.bool false))]),(.cells [(.val (.int .i64 1)),(.val (.int .i64 (fst (snd en)))),(.val (.int .i64 0)),(.val (.bool true))]),(.cells [(.val (.int .i64 (fst (fst en)))),(.val (.int .u32 (fst (snd (fst en))))),(.val (.int .u32 (fst (snd (snd (fst en)))))),(.val (.int .i64 (fst (snd (snd (snd (fst en))))))),(.val (.int .i64 (snd (snd (snd (snd (fst en))))))),(.val (.int .i64 (fst (snd en)))),(.val (.int .i64 (snd (snd en))))])]),[]⟩)):=by kernel_rfl
theorem Kx (a b:VO)(y:Nat→VO)(f:Fl)(now:Int)(tun:Bool)(Pre:VT→Prop)(pk qu:Bool)(L:Bs)(v:Bk)(v1:Int × Int × Int × Bool)(Q:TV→VT→Prop):aK prog ae (aE [(xj,gl [.ptr 8 0] (dE L) Pre),(Cn,fu [.agg (bo f),.vec 3 L .none] (.tup [.agg (eV v.1 v.2.1 v.2.2),.val (.bool pk)])),(xi,gl [.ptr 8 0] (eF qu) Pre)]) (bw [(999998,.dead,none)]) 300 bq 0 FX [.ptr 120 0,.ptr 118 0] (rT a b y (dQ f now tun [.cells (cX v1)])) Q=
 (((@Eq (Nat) 0 0)∧
 ((@Eq (List TV) jU jU)∧
 Pre ⟨[(a),(b)]++(ap y++ [(y (101:Nat)),(y (102:Nat)),(y (103:Nat)),(y (104:Nat)),(y (105:Nat)),(y (106:Nat)),(y (107:Nat)),(y (108:Nat)),(y (109:Nat)),(y (110:Nat)),(y (111:Nat)),(y (112:Nat)),(y (113:Nat)),(y (114:Nat)),(.cells [(.ptr 6 0)]),(.cells [(.ptr 8 0)]),(.cells [(.ptr 11 0)]),(.cells [(.val (.int .i64 (fst f))),(.val (.int .u32 (fst (snd f)))),(.val (.int .u32 (fst (snd (snd f))))),(.val (.int .i64 (fst (snd (snd (snd f)))))),(.val (.int .i64 (snd (snd (snd (snd f))))))]),(.cells [(.val (.int .i64 (now)))]),(.cells [(.val (.bool (tun)))]),(.cells [(.val (.int .i64 0)),(.val (.int .i64 0)),(.val (.int .i64 0)),(.val (.bool false))]),(.cells [(.val (.int .i64 0)),(.val (.int .i64 0)),(.val (.int .i64 0)),(.val (.bool false))]),(.cells [(.val (.int .i64 (fst v1))),(.val (.int .i64 (fst (snd v1)))),(.val (.int .i64 (fst (snd (snd v1))))),(.val (.bool (snd (snd (snd v1)))))]),(.cells [(.val (.int .i64 0)),(.val (.int .i64 0)),(.val (.int .i64 0)),(.val (.bool false))])]),[]⟩))∧
 (((@Eq (Option TV) (.some jb) (.some jb))∧
 ((@Eq (Option TV) (.some (hZ (fst f) (fst (snd f)) (fst (snd (snd f))) (fst (snd (snd (snd f)))) (snd (snd (snd (snd f)))))) (.some (hZ (fst f) (fst (snd f)) (fst (snd (snd f))) (fst (snd (snd (snd f)))) (snd (snd (snd (snd f)))))))∧
 True))∧
 ((@Eq (List TV) (tL (fst f) (fst (snd f)) (fst (snd (snd f))) (fst (snd (snd (snd f)))) (snd (snd (snd (snd f)))) L) (tL (fst f) (fst (snd f)) (fst (snd (snd f))) (fst (snd (snd (snd f)))) (snd (snd (snd (snd f)))) L))∧
 (bif pk
 then (((@Eq (Nat) 0 0)∧
 ((@Eq (List TV) jU jU)∧
 Pre ⟨[(a),(b)]++(ap y++ [(y (101:Nat)),(y (102:Nat)),(y (103:Nat)),(y (104:Nat)),(y (105:Nat)),(y (106:Nat)),(y (107:Nat)),(y (108:Nat)),(y (109:Nat)),(y (110:Nat)),(y (111:Nat)),(y (112:Nat)),(y (113:Nat)),(y (114:Nat)),(.cells [(.ptr 6 0)]),(.cells [(.ptr 8 0)]),(.cells [(.ptr 11 0)]),(.cells [(.val (.int .i64 (fst f))),(.val (.int .u32 (fst (snd f)))),(.val (.int .u32 (fst (snd (snd f))))),(.val (.int .i64 (fst (snd (snd (snd f)))))),(.val (.int .i64 (snd (snd (snd (snd f))))))]),(.cells [(.val (.int .i64 (now)))]),(.cells [(.val (.bool (tun)))]),(.cells [(.val (.int .i64 0)),(.val (.int .i64 0)),(.val (.int .i64 0)),(.val (.bool false))]),(.cells [(.val (.int .i64 0)),(.val (.int .i64 0)),(.val (.int .i64 0)),(.val (.bool false))]),(.cells [(.val (.int .i64 (fst v1))),(.val (.int .i64 (fst (snd v1)))),(.val (.int .i64 (fst (snd (snd v1))))),(.val (.bool (snd (snd (snd v1)))))]),(.cells [(.val (.int .i64 0)),(.val (.int .i64 0)),(.val (.int .i64 0)),(.val (.bool false))]),(.cells [(.val (.int .i64 (fst v))),(.val (.int .u32 (fst (snd v)))),(.val (.int .i64 (snd (snd v))))])]),[]⟩))∧
 (((@Eq (Option TV) (.some jb) (.some jb))∧
 ((@Eq (Option TV) (.some (ar (fst v))) (.some (ar (fst v))))∧
 True))∧
 Q (.tup [(Hp (fst v)),(eF qu)]) ⟨[(a),(b)]++(ap y++ [(y (101:Nat)),(y (102:Nat)),(y (103:Nat)),(y (104:Nat)),(y (105:Nat)),(y (106:Nat)),(y (107:Nat)),(y (108:Nat)),(y (109:Nat)),(y (110:Nat)),(y (111:Nat)),(y (112:Nat)),(y (113:Nat)),(y (114:Nat)),(.cells [(.ptr 6 0)]),(.cells [(.ptr 8 0)]),(.cells [(.ptr 11 0)]),(.cells [(.val (.int .i64 (fst f))),(.val (.int .u32 (fst (snd f)))),(.val (.int .u32 (fst (snd (snd f))))),(.val (.int .i64 (fst (snd (snd (snd f)))))),(.val (.int .i64 (snd (snd (snd (snd f))))))]),(.cells [(.val (.int .i64 (now)))]),(.cells [(.val (.bool (tun)))]),(.cells [(.val (.int .i64 0)),(.val (.int .i64 0)),(.val (.int .i64 0)),(.val (.bool false))]),(.cells [(.val (.int .i64 0)),(.val (.int .i64 0)),(.val (.int .i64 0)),(.val (.bool false))]),(.cells [(.val (.int .i64 (fst v1))),(.val (.int .i64 (fst (snd v1)))),(.val (.int .i64 (fst (snd (snd v1))))),(.val (.bool (snd (snd (snd v1)))))]),(.cells [(.val (.int .i64 1)),(.val (.int .i64 (fst v))),(.val (.int .i64 0)),(.val (.bool false))]),(.cells [(.val (.int .i64 (fst v))),(.val (.int .u32 (fst (snd v)))),(.val (.int .i64 (snd (snd v))))])]),[]⟩))
 else Q (.tup [(Hp (fst v)),bX]) ⟨[(a),(b)]++(ap y++ [(y (101:Nat)),(y (102:Nat)),(y (103:Nat)),(y (104:Nat)),(y (105:Nat)),(y (106:Nat)),(y (107:Nat)),(y (108:Nat)),(y (109:Nat)),(y (110:Nat)),(y (111:Nat)),(y (112:Nat)),(y (113:Nat)),(y (114:Nat)),(.cells [(.ptr 6 0)]),(.cells [(.ptr 8 0)]),(.cells [(.ptr 11 0)]),(.cells [(.val (.int .i64 (fst f))),(.val (.int .u32 (fst (snd f)))),(.val (.int .u32 (fst (snd (snd f))))),(.val (.int .i64 (fst (snd (snd (snd f)))))),(.val (.int .i64 (snd (snd (snd (snd f))))))]),(.cells [(.val (.int .i64 (now)))]),(.cells [(.val (.bool (tun)))]),(.cells [(.val (.int .i64 0)),(.val (.int .i64 0)),(.val (.int .i64 0)),(.val (.bool false))]),(.cells [(.val (.int .i64 0)),(.val (.int .i64 0)),(.val (.int .i64 0)),(.val (.bool false))]),(.cells [(.val (.int .i64 (fst v1))),(.val (.int .i64 (fst (snd v1)))),(.val (.int .i64 (fst (snd (snd v1))))),(.val (.bool (snd (snd (snd v1)))))]),(.cells [(.val (.int .i64 1)),(.val (.int .i64 (fst v))),(.val (.int .i64 0)),(.val (.bool false))]),(.cells [(.val (.int .i64 (fst v))),(.val (.int .u32 (fst (snd v)))),(.val (.int .i64 (snd (snd v))))])]),[]⟩)))):=by kernel_rfl
theorem Ky (a b:VO)(y:Nat→VO)(f:Fl)(now:Int)(tun:Bool)(Pre:VT→Prop)(sb:Bool)(s:Bk)(v1 v2:Int × Int × Int × Bool)(Q:TV→VT→Prop):aK prog ae (aE [(u7,gl [.ptr 11 0,.val (.int .i64 now)] (.tup [.agg (da s.1 s.2.1 s.2.2),.val (.bool sb)]) Pre)]) (bw [(999998,.dead,none)]) 300 bq 0 FY [.ptr 119 0,.ptr 121 0,.ptr 122 0] (rT a b y (dQ f now tun [.cells (cX v1),.cells (cX v2)])) Q=
 (((@Eq (Nat) 0 0)∧
 ((@Eq (List TV) (tI now) (tI now))∧
 Pre ⟨[(a),(b)]++(ap y++ [(y (101:Nat)),(y (102:Nat)),(y (103:Nat)),(y (104:Nat)),(y (105:Nat)),(y (106:Nat)),(y (107:Nat)),(y (108:Nat)),(y (109:Nat)),(y (110:Nat)),(y (111:Nat)),(y (112:Nat)),(y (113:Nat)),(y (114:Nat)),(.cells [(.ptr 6 0)]),(.cells [(.ptr 8 0)]),(.cells [(.ptr 11 0)]),(.cells [(.val (.int .i64 (fst f))),(.val (.int .u32 (fst (snd f)))),(.val (.int .u32 (fst (snd (snd f))))),(.val (.int .i64 (fst (snd (snd (snd f)))))),(.val (.int .i64 (snd (snd (snd (snd f))))))]),(.cells [(.val (.int .i64 (now)))]),(.cells [(.val (.bool (tun)))]),(.cells [(.val (.int .i64 0)),(.val (.int .i64 0)),(.val (.int .i64 0)),(.val (.bool false))]),(.cells [(.val (.int .i64 0)),(.val (.int .i64 0)),(.val (.int .i64 0)),(.val (.bool false))]),(.cells [(.val (.int .i64 (fst v1))),(.val (.int .i64 (fst (snd v1)))),(.val (.int .i64 (fst (snd (snd v1))))),(.val (.bool (snd (snd (snd v1)))))]),(.cells [(.val (.int .i64 (fst v2))),(.val (.int .i64 (fst (snd v2)))),(.val (.int .i64 (fst (snd (snd v2))))),(.val (.bool (snd (snd (snd v2)))))]),(.cells [(.val (.int .i64 0)),(.val (.int .i64 0)),(.val (.int .i64 0)),(.val (.bool false))])]),[]⟩))∧
 (bif sb
 then Q (.tup [(Ho (fst s)),(eF !tun)]) ⟨[(a),(b)]++(ap y++ [(y (101:Nat)),(y (102:Nat)),(y (103:Nat)),(y (104:Nat)),(y (105:Nat)),(y (106:Nat)),(y (107:Nat)),(y (108:Nat)),(y (109:Nat)),(y (110:Nat)),(y (111:Nat)),(y (112:Nat)),(y (113:Nat)),(y (114:Nat)),(.cells [(.ptr 6 0)]),(.cells [(.ptr 8 0)]),(.cells [(.ptr 11 0)]),(.cells [(.val (.int .i64 (fst f))),(.val (.int .u32 (fst (snd f)))),(.val (.int .u32 (fst (snd (snd f))))),(.val (.int .i64 (fst (snd (snd (snd f)))))),(.val (.int .i64 (snd (snd (snd (snd f))))))]),(.cells [(.val (.int .i64 (now)))]),(.cells [(.val (.bool (tun)))]),(.cells [(.val (.int .i64 0)),(.val (.int .i64 0)),(.val (.int .i64 0)),(.val (.bool false))]),(.cells [(.val (.int .i64 0)),(.val (.int .i64 0)),(.val (.int .i64 0)),(.val (.bool false))]),(.cells [(.val (.int .i64 (fst v1))),(.val (.int .i64 (fst (snd v1)))),(.val (.int .i64 (fst (snd (snd v1))))),(.val (.bool (snd (snd (snd v1)))))]),(.cells [(.val (.int .i64 (fst v2))),(.val (.int .i64 (fst (snd v2)))),(.val (.int .i64 (fst (snd (snd v2))))),(.val (.bool (snd (snd (snd v2)))))]),(.cells [(.val (.int .i64 2)),(.val (.int .i64 0)),(.val (.int .i64 (fst s))),(.val (.bool false))]),(.cells [(.val (.int .i64 (fst s))),(.val (.int .u32 (fst (snd s)))),(.val (.int .i64 (snd (snd s))))])]),[]⟩
 else Q (.tup [(Ho (fst s)),bX]) ⟨[(a),(b)]++(ap y++ [(y (101:Nat)),(y (102:Nat)),(y (103:Nat)),(y (104:Nat)),(y (105:Nat)),(y (106:Nat)),(y (107:Nat)),(y (108:Nat)),(y (109:Nat)),(y (110:Nat)),(y (111:Nat)),(y (112:Nat)),(y (113:Nat)),(y (114:Nat)),(.cells [(.ptr 6 0)]),(.cells [(.ptr 8 0)]),(.cells [(.ptr 11 0)]),(.cells [(.val (.int .i64 (fst f))),(.val (.int .u32 (fst (snd f)))),(.val (.int .u32 (fst (snd (snd f))))),(.val (.int .i64 (fst (snd (snd (snd f)))))),(.val (.int .i64 (snd (snd (snd (snd f))))))]),(.cells [(.val (.int .i64 (now)))]),(.cells [(.val (.bool (tun)))]),(.cells [(.val (.int .i64 0)),(.val (.int .i64 0)),(.val (.int .i64 0)),(.val (.bool false))]),(.cells [(.val (.int .i64 0)),(.val (.int .i64 0)),(.val (.int .i64 0)),(.val (.bool false))]),(.cells [(.val (.int .i64 (fst v1))),(.val (.int .i64 (fst (snd v1)))),(.val (.int .i64 (fst (snd (snd v1))))),(.val (.bool (snd (snd (snd v1)))))]),(.cells [(.val (.int .i64 (fst v2))),(.val (.int .i64 (fst (snd v2)))),(.val (.int .i64 (fst (snd (snd v2))))),(.val (.bool (snd (snd (snd v2)))))]),(.cells [(.val (.int .i64 2)),(.val (.int .i64 0)),(.val (.int .i64 (fst s))),(.val (.bool false))]),(.cells [(.val (.int .i64 (fst s))),(.val (.int .u32 (fst (snd s)))),(.val (.int .i64 (snd (snd s))))])]),[]⟩)):=by kernel_rfl
theorem Kz (a b:VO)(y:Nat→VO)(f:Fl)(now:Int)(tun:Bool)(P1 P2 P3:VT→Prop)(b1 b2 b3:Bool)(v1 v2 v3:Int × Int × Int × Bool)(Q:TV→VT→Prop):aK prog ae (aE [(FW,gl [.ptr 117 0,.ptr 120 0,.ptr 118 0] (.tup [.agg (cX v1),.val (.bool b1)]) P1),(FX,gl [.ptr 120 0,.ptr 118 0] (.tup [.agg (cX v2),.val (.bool b2)]) P2),(FY,gl [.ptr 119 0,.ptr 121 0,.ptr 122 0] (.tup [.agg (cX v3),.val (.bool b3)]) P3)]) (bw [(999998,.dead,none)]) 300 bq 0 FV [.ptr 6 0,.ptr 8 0,.ptr 11 0,.agg (bo f),.val (.int .i64 now),.val (.bool tun)] (rT a b y []) Q=
 (((@Eq (Nat) 0 0)∧
 ((@Eq (List TV) [(.ptr 117 0),(.ptr 120 0),(.ptr 118 0)] [(.ptr 117 0),(.ptr 120 0),(.ptr 118 0)])∧
 P1 ⟨[(a),(b)]++(ap y++ [(y (101:Nat)),(y (102:Nat)),(y (103:Nat)),(y (104:Nat)),(y (105:Nat)),(y (106:Nat)),(y (107:Nat)),(y (108:Nat)),(y (109:Nat)),(y (110:Nat)),(y (111:Nat)),(y (112:Nat)),(y (113:Nat)),(y (114:Nat)),(.cells [(.ptr 6 0)]),(.cells [(.ptr 8 0)]),(.cells [(.ptr 11 0)]),(.cells [(.val (.int .i64 (fst f))),(.val (.int .u32 (fst (snd f)))),(.val (.int .u32 (fst (snd (snd f))))),(.val (.int .i64 (fst (snd (snd (snd f)))))),(.val (.int .i64 (snd (snd (snd (snd f))))))]),(.cells [(.val (.int .i64 (now)))]),(.cells [(.val (.bool (tun)))]),(.cells [(.val (.int .i64 0)),(.val (.int .i64 0)),(.val (.int .i64 0)),(.val (.bool false))]),(.cells [(.val (.int .i64 0)),(.val (.int .i64 0)),(.val (.int .i64 0)),(.val (.bool false))])]),[]⟩))∧
 (bif b1
 then Q (D6 (fst v1) (fst (snd v1)) (fst (snd (snd v1))) (snd (snd (snd v1)))) ⟨[(a),(b)]++(ap y++ [(y (101:Nat)),(y (102:Nat)),(y (103:Nat)),(y (104:Nat)),(y (105:Nat)),(y (106:Nat)),(y (107:Nat)),(y (108:Nat)),(y (109:Nat)),(y (110:Nat)),(y (111:Nat)),(y (112:Nat)),(y (113:Nat)),(y (114:Nat)),(.cells [(.ptr 6 0)]),(.cells [(.ptr 8 0)]),(.cells [(.ptr 11 0)]),(.cells [(.val (.int .i64 (fst f))),(.val (.int .u32 (fst (snd f)))),(.val (.int .u32 (fst (snd (snd f))))),(.val (.int .i64 (fst (snd (snd (snd f)))))),(.val (.int .i64 (snd (snd (snd (snd f))))))]),(.cells [(.val (.int .i64 (now)))]),(.cells [(.val (.bool (tun)))]),(.cells [(.val (.int .i64 (fst v1))),(.val (.int .i64 (fst (snd v1)))),(.val (.int .i64 (fst (snd (snd v1))))),(.val (.bool (snd (snd (snd v1)))))]),(.cells [(.val (.int .i64 (fst v1))),(.val (.int .i64 (fst (snd v1)))),(.val (.int .i64 (fst (snd (snd v1))))),(.val (.bool (snd (snd (snd v1)))))]),(.cells [(.val (.int .i64 (fst v1))),(.val (.int .i64 (fst (snd v1)))),(.val (.int .i64 (fst (snd (snd v1))))),(.val (.bool (snd (snd (snd v1)))))])]),[]⟩
 else (((@Eq (Nat) 0 0)∧
 ((@Eq (List TV) [(.ptr 120 0),(.ptr 118 0)] [(.ptr 120 0),(.ptr 118 0)])∧
 P2 ⟨[(a),(b)]++(ap y++ [(y (101:Nat)),(y (102:Nat)),(y (103:Nat)),(y (104:Nat)),(y (105:Nat)),(y (106:Nat)),(y (107:Nat)),(y (108:Nat)),(y (109:Nat)),(y (110:Nat)),(y (111:Nat)),(y (112:Nat)),(y (113:Nat)),(y (114:Nat)),(.cells [(.ptr 6 0)]),(.cells [(.ptr 8 0)]),(.cells [(.ptr 11 0)]),(.cells [(.val (.int .i64 (fst f))),(.val (.int .u32 (fst (snd f)))),(.val (.int .u32 (fst (snd (snd f))))),(.val (.int .i64 (fst (snd (snd (snd f)))))),(.val (.int .i64 (snd (snd (snd (snd f))))))]),(.cells [(.val (.int .i64 (now)))]),(.cells [(.val (.bool (tun)))]),(.cells [(.val (.int .i64 0)),(.val (.int .i64 0)),(.val (.int .i64 0)),(.val (.bool false))]),(.cells [(.val (.int .i64 0)),(.val (.int .i64 0)),(.val (.int .i64 0)),(.val (.bool false))]),(.cells [(.val (.int .i64 (fst v1))),(.val (.int .i64 (fst (snd v1)))),(.val (.int .i64 (fst (snd (snd v1))))),(.val (.bool (snd (snd (snd v1)))))])]),[]⟩))∧
 (bif b2
 then Q (D6 (fst v2) (fst (snd v2)) (fst (snd (snd v2))) (snd (snd (snd v2)))) ⟨[(a),(b)]++(ap y++ [(y (101:Nat)),(y (102:Nat)),(y (103:Nat)),(y (104:Nat)),(y (105:Nat)),(y (106:Nat)),(y (107:Nat)),(y (108:Nat)),(y (109:Nat)),(y (110:Nat)),(y (111:Nat)),(y (112:Nat)),(y (113:Nat)),(y (114:Nat)),(.cells [(.ptr 6 0)]),(.cells [(.ptr 8 0)]),(.cells [(.ptr 11 0)]),(.cells [(.val (.int .i64 (fst f))),(.val (.int .u32 (fst (snd f)))),(.val (.int .u32 (fst (snd (snd f))))),(.val (.int .i64 (fst (snd (snd (snd f)))))),(.val (.int .i64 (snd (snd (snd (snd f))))))]),(.cells [(.val (.int .i64 (now)))]),(.cells [(.val (.bool (tun)))]),(.cells [(.val (.int .i64 (fst v2))),(.val (.int .i64 (fst (snd v2)))),(.val (.int .i64 (fst (snd (snd v2))))),(.val (.bool (snd (snd (snd v2)))))]),(.cells [(.val (.int .i64 (fst v2))),(.val (.int .i64 (fst (snd v2)))),(.val (.int .i64 (fst (snd (snd v2))))),(.val (.bool (snd (snd (snd v2)))))]),(.cells [(.val (.int .i64 (fst v1))),(.val (.int .i64 (fst (snd v1)))),(.val (.int .i64 (fst (snd (snd v1))))),(.val (.bool (snd (snd (snd v1)))))]),(.cells [(.val (.int .i64 (fst v2))),(.val (.int .i64 (fst (snd v2)))),(.val (.int .i64 (fst (snd (snd v2))))),(.val (.bool (snd (snd (snd v2)))))])]),[]⟩
 else (((@Eq (Nat) 0 0)∧
 ((@Eq (List TV) [(.ptr 119 0),(.ptr 121 0),(.ptr 122 0)] [(.ptr 119 0),(.ptr 121 0),(.ptr 122 0)])∧
 P3 ⟨[(a),(b)]++(ap y++ [(y (101:Nat)),(y (102:Nat)),(y (103:Nat)),(y (104:Nat)),(y (105:Nat)),(y (106:Nat)),(y (107:Nat)),(y (108:Nat)),(y (109:Nat)),(y (110:Nat)),(y (111:Nat)),(y (112:Nat)),(y (113:Nat)),(y (114:Nat)),(.cells [(.ptr 6 0)]),(.cells [(.ptr 8 0)]),(.cells [(.ptr 11 0)]),(.cells [(.val (.int .i64 (fst f))),(.val (.int .u32 (fst (snd f)))),(.val (.int .u32 (fst (snd (snd f))))),(.val (.int .i64 (fst (snd (snd (snd f)))))),(.val (.int .i64 (snd (snd (snd (snd f))))))]),(.cells [(.val (.int .i64 (now)))]),(.cells [(.val (.bool (tun)))]),(.cells [(.val (.int .i64 0)),(.val (.int .i64 0)),(.val (.int .i64 0)),(.val (.bool false))]),(.cells [(.val (.int .i64 0)),(.val (.int .i64 0)),(.val (.int .i64 0)),(.val (.bool false))]),(.cells [(.val (.int .i64 (fst v1))),(.val (.int .i64 (fst (snd v1)))),(.val (.int .i64 (fst (snd (snd v1))))),(.val (.bool (snd (snd (snd v1)))))]),(.cells [(.val (.int .i64 (fst v2))),(.val (.int .i64 (fst (snd v2)))),(.val (.int .i64 (fst (snd (snd v2))))),(.val (.bool (snd (snd (snd v2)))))])]),[]⟩))∧
 (bif b3
 then Q (D6 (fst v3) (fst (snd v3)) (fst (snd (snd v3))) (snd (snd (snd v3)))) ⟨[(a),(b)]++(ap y++ [(y (101:Nat)),(y (102:Nat)),(y (103:Nat)),(y (104:Nat)),(y (105:Nat)),(y (106:Nat)),(y (107:Nat)),(y (108:Nat)),(y (109:Nat)),(y (110:Nat)),(y (111:Nat)),(y (112:Nat)),(y (113:Nat)),(y (114:Nat)),(.cells [(.ptr 6 0)]),(.cells [(.ptr 8 0)]),(.cells [(.ptr 11 0)]),(.cells [(.val (.int .i64 (fst f))),(.val (.int .u32 (fst (snd f)))),(.val (.int .u32 (fst (snd (snd f))))),(.val (.int .i64 (fst (snd (snd (snd f)))))),(.val (.int .i64 (snd (snd (snd (snd f))))))]),(.cells [(.val (.int .i64 (now)))]),(.cells [(.val (.bool (tun)))]),(.cells [(.val (.int .i64 (fst v3))),(.val (.int .i64 (fst (snd v3)))),(.val (.int .i64 (fst (snd (snd v3))))),(.val (.bool (snd (snd (snd v3)))))]),(.cells [(.val (.int .i64 (fst v3))),(.val (.int .i64 (fst (snd v3)))),(.val (.int .i64 (fst (snd (snd v3))))),(.val (.bool (snd (snd (snd v3)))))]),(.cells [(.val (.int .i64 (fst v1))),(.val (.int .i64 (fst (snd v1)))),(.val (.int .i64 (fst (snd (snd v1))))),(.val (.bool (snd (snd (snd v1)))))]),(.cells [(.val (.int .i64 (fst v2))),(.val (.int .i64 (fst (snd v2)))),(.val (.int .i64 (fst (snd (snd v2))))),(.val (.bool (snd (snd (snd v2)))))]),(.cells [(.val (.int .i64 (fst v3))),(.val (.int .i64 (fst (snd v3)))),(.val (.int .i64 (fst (snd (snd v3))))),(.val (.bool (snd (snd (snd v3)))))])]),[]⟩
 else Q (.agg [bB,bB,bB,bX]) ⟨[(a),(b)]++(ap y++ [(y (101:Nat)),(y (102:Nat)),(y (103:Nat)),(y (104:Nat)),(y (105:Nat)),(y (106:Nat)),(y (107:Nat)),(y (108:Nat)),(y (109:Nat)),(y (110:Nat)),(y (111:Nat)),(y (112:Nat)),(y (113:Nat)),(y (114:Nat)),(.cells [(.ptr 6 0)]),(.cells [(.ptr 8 0)]),(.cells [(.ptr 11 0)]),(.cells [(.val (.int .i64 (fst f))),(.val (.int .u32 (fst (snd f)))),(.val (.int .u32 (fst (snd (snd f))))),(.val (.int .i64 (fst (snd (snd (snd f)))))),(.val (.int .i64 (snd (snd (snd (snd f))))))]),(.cells [(.val (.int .i64 (now)))]),(.cells [(.val (.bool (tun)))]),(.cells [(.val (.int .i64 0)),(.val (.int .i64 0)),(.val (.int .i64 0)),(.val (.bool false))]),(.cells [(.val (.int .i64 0)),(.val (.int .i64 0)),(.val (.int .i64 0)),(.val (.bool false))]),(.cells [(.val (.int .i64 (fst v1))),(.val (.int .i64 (fst (snd v1)))),(.val (.int .i64 (fst (snd (snd v1))))),(.val (.bool (snd (snd (snd v1)))))]),(.cells [(.val (.int .i64 (fst v2))),(.val (.int .i64 (fst (snd v2)))),(.val (.int .i64 (fst (snd (snd v2))))),(.val (.bool (snd (snd (snd v2)))))]),(.cells [(.val (.int .i64 (fst v3))),(.val (.int .i64 (fst (snd v3)))),(.val (.int .i64 (fst (snd (snd v3))))),(.val (.bool (snd (snd (snd v3)))))])]),[]⟩)))))):=by kernel_rfl
set_option maxRecDepth 100000
section
open Go.RowKit Go.Maps Go.Sort
theorem vu {α:Type}(l:List α)(k:Nat)(hk:k≤l.length):aS l (List.range k) (l.take k)=l:=by
 obtain ⟨h1,h2,h3,_⟩:=gO (List.range k) l (l.take k) nodup_range (λi hi=>by have:=mem_range.1 hi;omega) (by simp [hk])
 apply ext_getElem?
 intro i
 rcases lt_or_ge i k with h | h
 ·rw [h3 i i (getElem?_range h),getElem?_take,if_pos h]
 ·rcases lt_or_ge i l.length with h4 | h4
  ·exact h2 i h4 (by simp;omega)
  ·rw [getElem?_eq_none (by rw [h1];simp;omega),getElem?_eq_none h4]
theorem KA {T:VT}{A:List VO}(h:T.objs.take 117=A){j:Nat}(hj:j<117):T.objs[j]?=A[j]?:=by
 rw [←h,getElem?_take,if_pos hj]
section
variable {O:Nat→VO}{rg:VO}{lk:Value→Option TV}{es:Es}{ck:Nat}{now came went:Int}{x:Nat→VO}{y:List VO}{m:Nat}{f:FuncId}{xs:List TV}{x0:TV}
theorem zF (h:FlS m rg lk es x)(hO:fI O)(f g:Nat→Option Nat)(hf:∀j,j<16+m→f j=some j):(cR O rg lk es ck now came went++(List.range m).map x).map (VO.ren f g)=cR O rg lk es ck now came went++(List.range m).map x:=by
 have e:=pA (ck:=ck) (now:=now) (came:=came) (went:=went) h hO f g hf
 have e2:=congrArg (List.take (16+m)) e
 rw [←map_take] at e2
 have e3:=m9 (O:=O) (rg:=rg) (lk:=lk) (es:=es) (ck:=ck) (now:=now) (came:=came) (went:=went) (x:=x) (y:= []) h.hn
 simp only [fy,append_nil] at e3
 rw [e3] at e2
 exact e2
theorem zG (h:FlS m rg lk es x)(hO:fI O)(hL:∀v∈cR O rg lk es ck now came went,v.live=true)(hx:ay (am (List.range (16+m))) (am []) xs=xs)(h0:∀f g,x0.ren f g=x0)
  (hv:VCx prog ae 0 f xs (fy O rg lk es ck now came went x []) λr T'=>r=x0∧∃y,T'=fy O rg lk es ck now came went x y) {T:VT} (hT:T.objs.take 117=(fy O rg lk es ck now came went x []).objs):
  VCx prog ae 0 f xs T λr T'=>r=x0∧T'=T:=by
 have hm:=h.hn
 have hlen:117≤T.objs.length:=by
  have:=congrArg length hT
  rw [fw,length_take] at this
  simp only [length_nil] at this
  omega
 have hk:T.objs.take (16+m)=cR O rg lk es ck now came went++(List.range m).map x:=by
  have e:=congrArg (List.take (16+m)) hT
  rw [m9 hm,List.take_take,Nat.min_eq_left (by omega)] at e
  exact e
 have hg:T.give (List.range (16+m)) []=fz O rg lk es ck now came went x m:=by
  simp only [VT.give,fz,map_nil]
  congr 1
  rw [pz (VO.ren (am (List.range (16+m))) (am [])) .gone (16+m) _ (by omega),hk]
  exact zF h hO _ _ λj hj=>na hj
 have hfz:VCx prog ae 0 f xs (fz O rg lk es ck now came went x m) λr T'=>r=x0∧T'=fz O rg lk es ck now came went x m:=by
  refine VCx.pick (VCx.pad (101-m) ?_)
  rw [ya hm h.none]
  refine hv.mono ?_
  rintro r T' ⟨rfl,y,rfl⟩
  exact ⟨List.range (16+m),[],nT s8 rfl hm,h0 _ _,rG h hO⟩
 refine (VCx.lift (xs:=xs) (List.range (16+m)) [] bc nodup_range nodup_nil (λi hi=> ?_) (by simp) (λ_ _=>zero_le _) hx (by rw [hg];exact hfz) (λr T' hq=> ?_)).mono ?_
 ·have hi:=mem_range.1 hi
  have e1:T.objs[i]?=(cR O rg lk es ck now came went++(List.range m).map x)[i]?:=by rw [←hk,getElem?_take,if_pos hi]
  rcases lt_or_ge i 16 with h1 | h1
  ·rw [List.getElem?_append_left (by rw [bD];exact h1)] at e1
   have e2:=getElem?_eq_getElem (l:=cR O rg lk es ck now came went) (i:=i) (by rw [bD];exact h1)
   exact ⟨_,e1.trans e2,hL _ (List.getElem_mem _)⟩
  ·obtain ⟨j,rfl⟩:∃j,i=16+j:=⟨i-16,by omega⟩
   obtain ⟨e,a,c,q1,q2,_⟩:=Ba h (i:=j) (by omega) O lk es ck now came went []
   rw [List.getElem?_append_right (by rw [bD];omega),bD,show 16+j-16=j by omega,getElem?_map,getElem?_range (by omega)] at e1
   exact ⟨_,e1,by simp only [q2];rfl⟩
 ·obtain ⟨_,rfl⟩:=hq
  exact ⟨by rw [s8,length_range];exact le_refl _,zero_le _⟩
 ·rintro r T' ⟨y,T2,⟨rfl,rfl⟩,rfl,rfl⟩
  refine ⟨h0 _ _,?_⟩
  have e1:=zF (ck:=ck) (now:=now) (came:=came) (went:=went) h hO (aq T.objs.length (List.range (16+m))) (aq T.tails.length []) λj hj=>by
   simp only [aq,length_range,if_pos hj,getElem?_range hj]
  rw [←hk] at e1
  simp only [VT.back,fz,←hk,e1,aS,append_nil]
  rw [vu _ _ (by omega)]
theorem yd (h:FlS m rg lk es x)(ho:fI O)(hy:∀z∈y,z.ren (ai (117+y.length)) (ai 0)=z)(l:List VO)(k:Nat)(hk:k=117+y.length):VT.keep (fy O rg lk es ck now came went x (y++l)) k 0=fy O rg lk es ck now came went x y:=by
 subst hk
 have hn:=h.hn
 have e1:(cR O rg lk es ck now came went++(ap x++(y++l))).take (117+y.length)=(cR O rg lk es ck now came went++ap x)++y:=by
  rw [show cR O rg lk es ck now came went++(ap x++(y++l))=((cR O rg lk es ck now came went++ap x)++y)++l by simp only [append_assoc]]
  exact take_left' (by simp only [length_append,bD,cE])
 have e2:=pA (ck:=ck) (now:=now) (came:=came) (went:=went) h ho (ai (117+y.length)) (ai 0) λj hj=>jh (by omega)
 have e3:y.map (VO.ren (ai (117+y.length)) (ai 0))=y:=by
  conv=>rhs;rw [←List.map_id y]
  exact List.map_congr_left hy
 simp only [VT.keep,fy]
 rw [e1,map_append,e2,e3,append_assoc]
 rfl
theorem G5 (a b:VO)(B l:List VO)(hB:B.length=115):rT a b (λk=>B[k]?.getD .gone) l=⟨a::b::(B++l),[]⟩:=by
 have e1:ap (λk=>B[k]?.getD .gone)=B.take 101:=by
  apply ext_getElem?
  intro i
  rcases lt_or_ge i 101 with h | h
  ·rw [mZ _ i h,getElem?_take,if_pos h,getElem?_eq_getElem (by omega)];rfl
  ·rw [getElem?_eq_none (by rw [cE];exact h),getElem?_eq_none (by simp;omega)]
 have e2:(List.range 14).map (λk=>B[101+k]?.getD .gone)=B.drop 101:=by
  apply ext_getElem?
  intro i
  rw [List.getElem?_drop,getElem?_map]
  rcases lt_or_ge i 14 with h | h
  ·have e9:B[101+i]?=some B[101+i]:=getElem?_eq_getElem (by omega)
   rw [getElem?_range h,map_some,e9];rfl
  ·rw [getElem?_eq_none (by simpa using h),getElem?_eq_none (by omega)];rfl
 have e3:B++l=B.take 101++((List.range 14).map (λk=>B[101+k]?.getD .gone)++l):=by
  rw [e2,←append_assoc,List.take_append_drop]
 rw [e3,←e1]
 rfl
theorem FZ (O:Nat→VO)(rg:VO)(lk:Value→Option TV)(es:Es)(ck:Nat)(now came went:Int)(x:Nat→VO):∃y,∀l,rT (O 0) (O 1) y l=fy O rg lk es ck now came went x l:=by
 refine ⟨λk=>((cR O rg lk es ck now came went).drop 2++ap x)[k]?.getD .gone,λl=> ?_⟩
 rw [G5 _ _ _ _ (by simp only [length_drop,length_append,bD,cE])]
 simp only [fy,append_assoc]
 rfl
end
end
set_option maxRecDepth 100000
section
open Go.RowKit Go.Maps Go.Sort
def Ld (v:VO):En:=match v with
 | .cells (.val (.int _ p):: .val (.int _ s):: .val (.int _ d):: .val (.int _ sp):: .val (.int _ dp):: .val (.int _ b):: .val (.int _ l)::_)=>((p,s,d,sp,dp),b,l)
 |_=>((0,0,0,0,0),0,0)
theorem Jc (e:En)(u v:TV):Ld (dj e u v)=e:=rfl
def jP (lk:Value→Option TV)(x:Nat→VO)(f:Fl):Option En:=(lk (dw f)).map λv=>match v with
 | .ptr p 0=>Ld (x (p-16))
 |_=>((0,0,0,0,0),0,0)
def Le (o:Option En):TV:=.tup [.agg (aP (o.getD ((0,0,0,0,0),0,0))),.val (.bool o.isSome)]
theorem ES {T:VT}{a:Operand}{l:List (Nat × TV)}{id:Nat}{e:En}{u v:TV}(ha:au ae l a=.ptr id 0)(ho:T.objs[id]?=some (dj e u v)):cT prog ae T false (.load 49 a) l (.agg (aP e)):=by
 obtain ⟨inf,i1,i2⟩:=CX
 refine .mk ?_
 have hc:bJ T (.ptr id 0) 7=some (aP e):=by
  simp only [bJ,ho,dj]
  rfl
 simp [iK,aR,cM,aH,cL,eJ,Tryz.underlying49,i1,i2,fP,ha,hc]
structure MdI where
 n:Int
 S:List Mb
 L:List aO
 R:cN
 O:Nat→VO
 rg:VO
 lk:Value→Option TV
 es:Es
 ck:Nat
 now:Int
 came:Int
 went:Int
 x:Nat→VO
 m:Nat
def MdI.T (i:MdI)(y:List VO):VT:=fy i.O i.rg i.lk i.es i.ck i.now i.came i.went i.x y
structure MdA (A:List VO) (i:MdI):Prop where
 hA:A=(i.T []).objs
 fix:fI i.O
 live:∀v∈cR i.O i.rg i.lk i.es i.ck i.now i.came i.went,v.live=true
 fl:FlS i.m i.rg i.lk i.es i.x
 n1:1≤i.n
 n2:i.n≤100
 po:∃lk es ck st,i.O 8=.cells [.val (.int .i64 i.n),.map 7]∧i.O 7=.map kI lk es ck∧PoOk lk es ck i.S st
 si:∃lk es ck lk2 es2 ck2 st,i.O 11=.cells [.map 9,.map 10]∧i.O 9=.map kI lk es ck∧i.O 10=.map kI lk2 es2 ck2∧SitesOk lk es ck i.L st∧RepsOk lk2 es2 i.R
section
variable {A:List VO}{i:MdI}{T:VT}
theorem Dl (h:MdA A i)(hT:T.objs.take 117=A)(f:Fl):VCx prog ae 0 xM [.ptr 6 0,.agg (bo f)] T λr T'=>r=Le (jP i.lk i.x f)∧T'=T:=by
 rw [h.hA] at hT
 have h6:am (List.range (16+i.m)) 6=some 6:=na (by omega)
 refine zG h.fl h.fix h.live ?_ (λ_ _=>rfl) ?_ hT
 ·simp only [ay,TV.ren,h6,bo,bV]
 ·cases hl:i.lk (dw f) with
  |none=>
   refine an ah ag aw ak (Jb i.O i.rg i.lk i.es i.ck i.now i.came i.went i.x f _) ?_
   refine ⟨iQ ((m7 (lk:=i.lk) (es:=i.es) (ck:=i.ck) rfl).trans (by rw [hl];rfl)),?_,_,rfl⟩
   simp only [jP,hl]
   rfl
  |some v=>
   obtain ⟨j,hj,rfl⟩:=h.fl.map _ _ hl
   obtain ⟨e,a,c,q1,q2,_⟩:=Ba h.fl hj i.O i.lk i.es i.ck i.now i.came i.went [.cells (bo f),zu]
   have hp:jP i.lk i.x f=some e:=by
    simp only [jP,hl,map_some,Nat.add_sub_cancel_left,q2,cW,Jc]
   refine an ah ag aw ak (Ja i.O i.rg i.lk i.es i.ck i.now i.came i.went i.x (16+j) f e _) ?_
   refine ⟨iQ ((m7 (lk:=i.lk) (es:=i.es) (ck:=i.ck) rfl).trans (by rw [hl];rfl)),iQ ((m7 (lk:=i.lk) (es:=i.es) (ck:=i.ck) rfl).trans (by rw [hl];rfl)),ES rfl q1,?_,_,rfl⟩
   rw [hp];rfl
theorem MdA.at (h:MdA A i)(hT:T.objs.take 117=A){j:Nat}(hj:j<16):T.objs[j]?=(cR i.O i.rg i.lk i.es i.ck i.now i.came i.went)[j]?:=by
 rw [KA hT (by omega),h.hA]
 exact gG hj
theorem vJ (h:MdA A i)(hT:T.objs.take 117=A){f:FuncId}{xs ys:List TV}{x0:TV}(hy:ay (am [8,7]) (am []) ys=xs)(hx:∀f g,x0.ren f g=x0)(hv:∀lk es ck st,PoOk lk es ck i.S st→VCx prog ae 0 f xs (pT i.n lk es ck) (sL i.n lk es ck x0)):VCx prog ae 0 f ys T λr T'=>r=x0∧T'=T:=by
 obtain ⟨lk,es,ck,st,h8,h7,hp⟩:=h.po
 have e8:T.objs[8]?=some (.cells [.val (.int .i64 i.n),.map 7]):=(h.at hT (j:=8) (by decide)).trans (by rw [←h8];rfl)
 have e7:T.objs[7]?=some (.map kI lk es ck):=(h.at hT (j:=7) (by decide)).trans (by rw [←h7];rfl)
 exact Cj hp hy hx (hv lk es ck st hp) 0 ys T _ ⟨⟨rfl,rfl,e8,e7⟩,rfl,rfl⟩
theorem F0 (h:MdA A i)(hT:T.objs.take 117=A)(z:Int):VCx prog ae 0 xh [.ptr 8 0,.val (.int .i64 z)] T λr T'=>r=.val (.bool (bL i.S z).2.1)∧T'=T:=
 vJ h hT (xs:= [.ptr 0 0,.val (.int .i64 z)]) rfl (λ_ _=>rfl) λ_ _ _ _ hp=>HL hp z
theorem KB (h:MdA A i)(hT:T.objs.take 117=A)(z:Int):VCx prog ae 0 Cc [.ptr 8 0,.val (.int .i64 z)] T λr T'=>r=.tup [.agg (aA (bL i.S z).1),.val (.bool (fM i.S z))]∧T'=T:=
 vJ h hT (xs:= [.ptr 0 0,.val (.int .i64 z)]) rfl (λ_ _=>rfl) λ_ _ _ _ hp=>HN hp z
theorem F1 (h:MdA A i)(hT:T.objs.take 117=A):VCx prog ae 0 xi [.ptr 8 0] T λr T'=>r=.val (.bool (jX i.n i.S))∧T'=T:=
 vJ h hT (xs:= [.ptr 0 0]) rfl (λ_ _=>rfl) λ_ _ _ _ hp=>Im hp ⟨h.n1,h.n2⟩
theorem F2 (h:MdA A i)(hT:T.objs.take 117=A):VCx prog ae 0 xj [.ptr 8 0] T λr T'=>r=.vec 3 ((cF i.S).map aA) .none∧T'=T:=
 vJ h hT (xs:= [.ptr 0 0]) rfl (λf g=>by simp only [TV.ren,pG,Tok.ren]) λ_ _ _ _ hp=>Ip hp
theorem F3 (h:MdA A i)(hT:T.objs.take 117=A)(n:Int):VCx prog ae 0 u7 [.ptr 11 0,.val (.int .i64 n)] T λr T'=>r=.tup [ix (sW (dd i.L i.R n)),.val (.bool (sX (dd i.L i.R n)))]∧T'=T:=by
 obtain ⟨lk,es,ck,lk2,es2,ck2,st,h11,h9,h10,g1,g2⟩:=h.si
 have e11:T.objs[11]?=some (.cells [.map 9,.map 10]):=(h.at hT (j:=11) (by decide)).trans (by rw [←h11];rfl)
 have e9:T.objs[9]?=some (.map kI lk es ck):=(h.at hT (j:=9) (by decide)).trans (by rw [←h9];rfl)
 have e10:T.objs[10]?=some (.map kI lk2 es2 ck2):=(h.at hT (j:=10) (by decide)).trans (by rw [←h10];rfl)
 have q1:=g1.ren (am [11,9,10]) (am [])
 have q2:=g2.ren ck2 (am [11,9,10]) (am [])
 have hg:T.give [11,9,10] []=sT lk lk2 es es2 ck ck2:=by
  simp only [VT.give,map_cons,map_nil,e11,e9,e10,getD_some,q1,q2,sT]
  rfl
 refine (VCx.lift (xs:= [.ptr 0 0,.val (.int .i64 n)]) [11,9,10] [] bc (by decide) nodup_nil (λk hk'=> ?_) (by simp) (λ_ _=>zero_le _) rfl (by rw [hg];exact IP g1 g2 n) (λx T' hq=> ?_)).mono ?_
 ·simp only [mem_cons,not_mem_nil,or_false] at hk'
  rcases hk' with rfl | rfl | rfl
  ·exact ⟨_,e11,rfl⟩
  ·exact ⟨_,e9,rfl⟩
  ·exact ⟨_,e10,rfl⟩
 ·obtain ⟨_,rfl⟩:=hq;exact ⟨le_refl 3,zero_le _⟩
 ·rintro x T' ⟨y,T2,⟨rfl,rfl⟩,rfl,rfl⟩
  refine ⟨rfl,?_⟩
  have r1:=g1.ren (aq T.objs.length [11,9,10]) (aq T.tails.length [])
  have r2:=g2.ren ck2 (aq T.objs.length [11,9,10]) (aq T.tails.length [])
  have e1:VO.ren (aq T.objs.length [11,9,10]) (aq T.tails.length []) (.cells [.map 1,.map 2])=.cells [.map 9,.map 10]:=by simp [VO.ren,ay,TV.ren,aq]
  simp only [VT.back,sT,map_cons,map_nil,r1,r2,e1,aS]
  rw [fe e11,fe e9,fe e10]
  simp
def ji (f:Fl):Int:=ju f.1 f.2.1 f.2.2.1 f.2.2.2.1 f.2.2.2.2
abbrev Vd:=Int × Int × Int × Bool
def jQ (i:MdI)(f:Fl):Vd × Bool:=((1,((jP i.lk i.x f).getD ((0,0,0,0,0),0,0)).2.1,0,true),(jP i.lk i.x f).isSome&&(bL i.S ((jP i.lk i.x f).getD ((0,0,0,0,0),0,0)).2.1).2.1)
def l9 (i:MdI)(f:Fl):Vd × Bool:=((1,((gF (ji f) (cF i.S)).getD (0,0,0)).1,0,false),(gF (ji f) (cF i.S)).isSome&&jX i.n i.S)
def iB (i:MdI)(now:Int)(tun:Bool):Vd × Bool:=((2,0,(sW (dd i.L i.R now)).1,false),sX (dd i.L i.R now)&& !tun)
def jR (i:MdI)(f:Fl)(now:Int)(tun:Bool):Vd:=bif (jQ i f).2 then (jQ i f).1 else bif (l9 i f).2 then (l9 i f).1 else bif (iB i now tun).2 then (iB i now tun).1 else (0,0,0,false)
theorem Bd (a b:VO)(y:Nat→VO)(l:List VO):(rT a b y l).objs.take 117=(rT a b y []).objs:=by
 have e:(rT a b y l).objs=(rT a b y []).objs++l:=by
  simp only [rT,List.cons_append,append_assoc,List.nil_append]
 rw [e,take_left']
 simp only [rT,length_cons,length_append,cE,length_nil]
theorem Jd (k:Nat)(hk:122≤k)(f:Fl)(now:Int)(tun:Bool){l:List VO}(hl:∀z∈l,∃v:Vd,z=.cells (cX v)):∀z∈dQ f now tun l,z.ren (ai k) (ai 0)=z:=by
 intro z hz
 simp only [dQ,mem_cons] at hz
 rcases hz with rfl | rfl | rfl | rfl | rfl | rfl | rfl | rfl | hz
 ·simp only [VO.ren,ay,TV.ren,jh (show 6<k by omega)]
 ·simp only [VO.ren,ay,TV.ren,jh (show 8<k by omega)]
 ·simp only [VO.ren,ay,TV.ren,jh (show 11<k by omega)]
 ·rfl
 ·rfl
 ·rfl
 ·rfl
 ·rfl
 ·obtain ⟨v,rfl⟩:=hl z hz;rfl
end
end
set_option maxRecDepth 100000
section
open Go.RowKit Go.Maps Go.Sort
theorem rH {S:List Mb}(h:S.length≤16):(cF S).length≤16:=by
 unfold cF
 rw [length_map]
 have:=xe (ky:=bh) (S:=S) (p:=lb) (l:=cd bh S)
 rw [xc] at this
 omega
theorem iC {f:FuncId}{ys0:List TV}{x0:TV}{Pre:VT→Prop}(h:∀T,Pre T→VCx prog ae 0 f ys0 T λr T'=>r=x0∧T'=T):∀ro ys T K,gl ys0 x0 Pre ro ys T K→VCx prog ae ro f ys T K:=by
 rintro ro ys T K ⟨⟨rfl,rfl,hT⟩,hk⟩
 refine (h T hT).mono ?_
 rintro r T' ⟨rfl,rfl⟩
 exact hk
section
variable {A:List VO}{i:MdI}{T:VT}{y:Nat→VO}
theorem MdA.few (h:MdA A i):i.S.length≤16:=by
 obtain ⟨_,_,_,_,_,_,hp⟩:=h.po
 exact hp.ok.few
theorem MdA.nd (h:MdA A i):(i.S.map bh).Nodup:=by
 obtain ⟨_,_,_,_,_,_,hp⟩:=h.po
 exact hp.ok.nd
theorem ue (h:MdA A i)(hy:∀l,rT (i.O 0) (i.O 1) y l=i.T l)(f:Fl)(now:Int)(tun:Bool)(vs:List Vd)(l:List VO)(k:Nat)(hk:k=125+vs.length):VT.keep (rT (i.O 0) (i.O 1) y (dQ f now tun (vs.map (λv=>.cells (cX v))++l))) k 0=rT (i.O 0) (i.O 1) y (dQ f now tun (vs.map λv=>.cells (cX v))):=by
 have e:dQ f now tun (vs.map (λv=>VO.cells (cX v))++l)=dQ f now tun (vs.map λv=>.cells (cX v))++l:=rfl
 rw [e,hy,hy]
 have hl:(dQ f now tun (vs.map λv=>VO.cells (cX v))).length=8+vs.length:=by
  simp only [dQ,length_cons,length_map];omega
 exact yd h.fl h.fix (Jd _ (by rw [hl];omega) f now tun λz hz=>by obtain ⟨v,_,rfl⟩:=mem_map.1 hz;exact ⟨v,rfl⟩) l k (by rw [hl];omega)
theorem s9 (a b:VO)(y:Nat→VO)(l:List VO):(rT a b y l).objs.length=117+l.length:=by
 simp only [rT,length_cons,length_append,cE];omega
theorem Je (h:MdA A i)(hy:∀l,rT (i.O 0) (i.O 1) y l=i.T l)(f:Fl)(now:Int)(tun:Bool):VCx prog ae 0 FW [.ptr 117 0,.ptr 120 0,.ptr 118 0] (rT (i.O 0) (i.O 1) y (dQ f now tun [])) λr T'=>r=.tup [.agg (cX (jQ i f).1),.val (.bool (jQ i f).2)]∧T'=rT (i.O 0) (i.O 1) y (dQ f now tun []):=by
 have hA:(rT (i.O 0) (i.O 1) y []).objs=A:=by rw [hy,h.hA]
 have hC:aT prog ae (aE [(xM,gl [.ptr 6 0,.agg (bo f)] (Le (jP i.lk i.x f)) λT=>T.objs.take 117=A),(xh,gl [.ptr 8 0,.val (.int .i64 ((jP i.lk i.x f).getD ((0,0,0,0,0),0,0)).2.1)] (.val (.bool (bL i.S ((jP i.lk i.x f).getD ((0,0,0,0,0),0,0)).2.1).2.1)) λT=>T.objs.take 117=A)]):=aJ λp hp=>by
  simp only [mem_cons,not_mem_nil,or_false] at hp
  rcases hp with rfl | rfl
  ·exact iC λT hT=>Dl h hT f
  ·exact iC λT hT=>F0 h hT _
 have hk:∀l,VT.keep (rT (i.O 0) (i.O 1) y (dQ f now tun l)) 125 0=rT (i.O 0) (i.O 1) y (dQ f now tun []):=λl=>ue h hy f now tun [] l 125 rfl
 refine VCx.keepQ 125 0 (by rw [s9];exact le_refl _) (le_refl _) (an ah ag hC ak (Kw _ _ y f now tun _ _ _ _ _) ?_)
 have pre:∀l,(rT (i.O 0) (i.O 1) y l).objs.take 117=A:=λl=>(Bd _ _ y l).trans hA
 refine ⟨⟨rfl,rfl,pre (dQ f now tun [.cells (jO 0 0 0 false)])⟩,aM (λhb=>⟨⟨rfl,rfl,pre (dQ f now tun [.cells (jO 0 0 0 false),.cells (aP ((jP i.lk i.x f).getD ((0,0,0,0,0),0,0)))])⟩,⟨rfl,rfl,rfl,trivial⟩,?_,hk [.cells (jO 1 ((jP i.lk i.x f).getD ((0,0,0,0,0),0,0)).2.1 0 true),.cells (aP ((jP i.lk i.x f).getD ((0,0,0,0,0),0,0)))]⟩) (λhb=>⟨?_,hk [.cells (jO 1 ((jP i.lk i.x f).getD ((0,0,0,0,0),0,0)).2.1 0 true),.cells (aP ((jP i.lk i.x f).getD ((0,0,0,0,0),0,0)))]⟩)⟩
 ·simp only [jQ,hb,Bool.true_and];rfl
 ·simp only [jQ,hb,Bool.false_and];rfl
theorem Jf (h:MdA A i)(hy:∀l,rT (i.O 0) (i.O 1) y l=i.T l)(f:Fl)(now:Int)(tun:Bool)(v1:Vd):VCx prog ae 0 FX [.ptr 120 0,.ptr 118 0] (rT (i.O 0) (i.O 1) y (dQ f now tun [.cells (cX v1)])) λr T'=>r=.tup [.agg (cX (l9 i f).1),.val (.bool (l9 i f).2)]∧T'=rT (i.O 0) (i.O 1) y (dQ f now tun [.cells (cX v1)]):=by
 have hA:(rT (i.O 0) (i.O 1) y []).objs=A:=by rw [hy,h.hA]
 have hC:aT prog ae (aE [(xj,gl [.ptr 8 0] (.vec 3 ((cF i.S).map aA) .none) λT=>T.objs.take 117=A),(Cn,fu [.agg (bo f),.vec 3 ((cF i.S).map aA) .none] (KQ (gF (ji f) (cF i.S)))),(xi,gl [.ptr 8 0] (.val (.bool (jX i.n i.S))) λT=>T.objs.take 117=A)]):=aJ λp hp=>by
  simp only [mem_cons,not_mem_nil,or_false] at hp
  rcases hp with rfl | rfl | rfl
  ·exact iC λT hT=>F2 h hT
  ·exact oZ bc (by simp only [ay,TV.ren,pG,Tok.ren];rfl) (λ_ _=>rfl) (Il f.1 f.2.1 f.2.2.1 f.2.2.2.1 f.2.2.2.2 (cF i.S) (by have:=rH h.few;omega))
  ·exact iC λT hT=>F1 h hT
 have hk:∀l,VT.keep (rT (i.O 0) (i.O 1) y (dQ f now tun (.cells (cX v1)::l))) 126 0=rT (i.O 0) (i.O 1) y (dQ f now tun [.cells (cX v1)]):=λl=>ue h hy f now tun [v1] l 126 rfl
 refine VCx.keepQ 126 0 (by rw [s9];exact le_refl _) (le_refl _) (an ah ag hC ak (Kx _ _ y f now tun _ _ _ _ _ v1 _) ?_)
 have pre:∀l,(rT (i.O 0) (i.O 1) y l).objs.take 117=A:=λl=>(Bd _ _ y l).trans hA
 generalize hpk:(gF (ji f) (cF i.S)).getD (0,0,0)=b
 refine ⟨⟨rfl,rfl,pre (dQ f now tun [.cells (cX v1),.cells (jO 0 0 0 false)])⟩,⟨rfl,rfl,trivial⟩,rfl,aM (λhb=>⟨⟨rfl,rfl,pre (dQ f now tun [.cells (cX v1),.cells (jO 0 0 0 false),.cells (eV b.1 b.2.1 b.2.2)])⟩,⟨rfl,rfl,trivial⟩,?_,hk [.cells (jO 1 b.1 0 false),.cells (eV b.1 b.2.1 b.2.2)]⟩) (λhb=>⟨?_,hk [.cells (jO 1 b.1 0 false),.cells (eV b.1 b.2.1 b.2.2)]⟩)⟩
 ·simp only [l9,hb,hpk,Bool.true_and];rfl
 ·simp only [l9,hb,hpk,Bool.false_and];rfl
theorem Jg (h:MdA A i)(hy:∀l,rT (i.O 0) (i.O 1) y l=i.T l)(f:Fl)(now:Int)(tun:Bool)(v1 v2:Vd):VCx prog ae 0 FY [.ptr 119 0,.ptr 121 0,.ptr 122 0] (rT (i.O 0) (i.O 1) y (dQ f now tun [.cells (cX v1),.cells (cX v2)])) λr T'=>r=.tup [.agg (cX (iB i now tun).1),.val (.bool (iB i now tun).2)]∧T'=rT (i.O 0) (i.O 1) y (dQ f now tun [.cells (cX v1),.cells (cX v2)]):=by
 have hA:(rT (i.O 0) (i.O 1) y []).objs=A:=by rw [hy,h.hA]
 have hC:aT prog ae (aE [(u7,gl [.ptr 11 0,.val (.int .i64 now)] (.tup [ix (sW (dd i.L i.R now)),.val (.bool (sX (dd i.L i.R now)))]) λT=>T.objs.take 117=A)]):=aJ λp hp=>by
  obtain rfl:=mem_singleton.1 hp
  exact iC λT hT=>F3 h hT now
 have hk:∀l,VT.keep (rT (i.O 0) (i.O 1) y (dQ f now tun (.cells (cX v1):: .cells (cX v2)::l))) 127 0=rT (i.O 0) (i.O 1) y (dQ f now tun [.cells (cX v1),.cells (cX v2)]):=λl=>ue h hy f now tun [v1,v2] l 127 rfl
 refine VCx.keepQ 127 0 (by rw [s9];exact le_refl _) (le_refl _) (an ah ag hC ak (Ky _ _ y f now tun _ _ _ v1 v2 _) ?_)
 have pre:∀l,(rT (i.O 0) (i.O 1) y l).objs.take 117=A:=λl=>(Bd _ _ y l).trans hA
 refine ⟨⟨rfl,rfl,pre (dQ f now tun [.cells (cX v1),.cells (cX v2),.cells (jO 0 0 0 false)])⟩,aM (λhb=>⟨?_,hk [.cells (jO 2 0 (sW (dd i.L i.R now)).1 false),.cells (bf (sW (dd i.L i.R now)))]⟩) (λhb=>⟨?_,hk [.cells (jO 2 0 (sW (dd i.L i.R now)).1 false),.cells (bf (sW (dd i.L i.R now)))]⟩)⟩
 ·simp only [iB,hb,Bool.true_and];rfl
 ·simp only [iB,hb,Bool.false_and];rfl
theorem Jh (h:MdA A i)(hT:T.objs.take 117=A)(f:Fl)(now:Int)(tun:Bool):VCx prog ae 0 FV [.ptr 6 0,.ptr 8 0,.ptr 11 0,.agg (bo f),.val (.int .i64 now),.val (.bool tun)] T λr T'=>r=.agg (cX (jR i f now tun))∧T'=T:=by
 rw [h.hA] at hT
 have nm:∀k,k<16→am (List.range (16+i.m)) k=some k:=λk hk=>na (by omega)
 refine zG h.fl h.fix h.live ?_ (λ_ _=>rfl) ?_ hT
 ·simp only [ay,TV.ren,nm 6 (by decide),nm 8 (by decide),nm 11 (by decide),bo,bV]
 ·obtain ⟨y,hy⟩:=FZ i.O i.rg i.lk i.es i.ck i.now i.came i.went i.x
  have hy':∀l,rT (i.O 0) (i.O 1) y l=i.T l:=hy
  have hC:aT prog ae (aE [(FW,gl [.ptr 117 0,.ptr 120 0,.ptr 118 0] (.tup [.agg (cX (jQ i f).1),.val (.bool (jQ i f).2)]) λT=>T=rT (i.O 0) (i.O 1) y (dQ f now tun [])),(FX,gl [.ptr 120 0,.ptr 118 0] (.tup [.agg (cX (l9 i f).1),.val (.bool (l9 i f).2)]) λT=>T=rT (i.O 0) (i.O 1) y (dQ f now tun [.cells (cX (jQ i f).1)])),(FY,gl [.ptr 119 0,.ptr 121 0,.ptr 122 0] (.tup [.agg (cX (iB i now tun).1),.val (.bool (iB i now tun).2)]) λT=>T=rT (i.O 0) (i.O 1) y (dQ f now tun [.cells (cX (jQ i f).1),.cells (cX (l9 i f).1)]))]):=aJ λp hp=>by
   simp only [mem_cons,not_mem_nil,or_false] at hp
   rcases hp with rfl | rfl | rfl
   ·exact iC λT hT=>by subst hT;exact Je h hy' f now tun
   ·exact iC λT hT=>by subst hT;exact Jf h hy' f now tun _
   ·exact iC λT hT=>by subst hT;exact Jg h hy' f now tun _ _
  have fin:∀(v:Vd) (l:List VO),v=jR i f now tun→(TV.agg (cX v)=.agg (cX (jR i f now tun))∧∃l',rT (i.O 0) (i.O 1) y l=fy i.O i.rg i.lk i.es i.ck i.now i.came i.went i.x l'):=λv l e=>⟨by rw [e],l,hy l⟩
  rw [←hy []]
  refine an ah ag hC ak (Kz _ _ y f now tun _ _ _ _ _ _ _ _ _ _) ?_
  have hl:∀{P:TV→VT→Prop} {r:TV} {T T':VT},T=T'→P r T'→P r T:=λe h=>e▸h
  refine ⟨⟨rfl,rfl,rfl⟩,aM (λh1=> ?_) λh1=>⟨⟨rfl,rfl,rfl⟩,aM (λh2=> ?_) λh2=>⟨⟨rfl,rfl,rfl⟩,aM (λh3=> ?_) λh3=> ?_⟩⟩⟩
  ·exact ⟨by simp only [jR,h1,cond_true];rfl,_,hy _⟩
  ·exact ⟨by simp only [jR,h1,h2,cond_true,cond_false];rfl,_,hy _⟩
  ·exact ⟨by simp only [jR,h1,h2,h3,cond_true,cond_false];rfl,_,hy _⟩
  ·exact ⟨by simp only [jR,h1,h2,h3,cond_false];rfl,_,hy _⟩
end
end
end Go.Proofs.YtgboehkdijjnkaaGreatDoor