/-Part 6 of the proof of balanceSticksCard_holds:BpJ,FlE,Vcd ... No condition. -/
import Derived.Test.YtgboehkdijjnkaaGreatDoorBy1
import Derived.Test.YtgboehkdijjnkaaGreatDoorBy2
import Derived.Test.YtgboehkdijjnkaaGreatDoorBy3
import Derived.Test.YtgboehkdijjnkaaGreatDoorBy4
import Derived.Test.YtgboehkdijjnkaaGreatDoorBy5
set_option maxRecDepth 100000
set_option maxRecDepth 100000
namespace Go.Proofs.YtgboehkdijjnkaaGreatDoor
open Go.RowKit
open Go.BinOp (eql)
open Go.Calls (mono)
open _root_.Function (comp)
open _root_.Int (natCast_nonneg toNat_natCast)
open Go.IntKind (i64 u32 u64 wrap)
open _root_.List (append_assoc append_nil drop ext_getElem? find?_eq_none flatten getElem?_append_left getElem?_append_right getElem?_eq_getElem getElem?_eq_none getElem?_map getElem?_set length length_append length_cons length_drop length_map length_nil length_replicate length_take map_append map_cons map_map map_nil mem_append mem_cons mem_cons_of_mem mem_cons_self mem_map mem_singleton nodup_nil not_mem_nil pairwise_cons takeWhile_cons take_left' take_succ_cons take_zero toArray)
open _root_.Nat (le_refl lt_or_ge not_lt_zero zero_add zero_le)
open _root_.Option (getD_some isSome_none isSome_some map_some)
open _root_.Prod (fst snd)
open Go.Proofs.Tryz (prog underlying127 underlying78)
section
open Go.RowKit Go.Maps Go.Sort
abbrev Fl:=Int × Int × Int × Int × Int
def au (f:Fl):List TV:=bQ f.1 f.2.1 f.2.2.1 f.2.2.2.1 f.2.2.2.2
def Jh (f:Fl):Value:=.agg #[.int .i64 f.1,.int .u32 f.2.1,.int .u32 f.2.2.1,.int .i64 f.2.2.2.1,.int .i64 f.2.2.2.2]
abbrev En:=Fl × Int × Int
def aO (e:En):List TV:=i5 (au e.1) e.2.1 e.2.2
def yB (a b:Fl):Bool:=bN eql (am (Jh a) (Jh b))
theorem lw (f g:Nat→Option Nat):∀l:List En,bL f g (l.map aO)=l.map aO
 |[]=>rfl
 |a::l=>by simp only [map_cons,bL,lw f g l];rfl
theorem pE (f g:Nat→Option Nat)(w c k:Int)(l:List En):VO.ren f g (uO w (l.map aO) c k)=uO w (l.map aO) c k:=by
 simp only [uO,VO.ren,av,TV.ren,lw,Tok.ren]
theorem qA:∃inf:TypeInfo,prog.info? 90=some inf∧inf.size=7∧inf.bytes+1≤1000∧inf.zero=some (.agg #[.int .i64 0,.int .u32 0,.int .u32 0,.int .i64 0,.int .i64 0,.int .i64 0,.int .i64 0]):=
 ⟨(prog.info? 90).getD default,by kernel_rfl,by kernel_rfl,Nat.le_of_ble_eq_true (by kernel_rfl),by kernel_rfl⟩
theorem yC {x i:Operand}{l:List (Nat × TV)}{L:List (List TV)}{tok:Tok}{k:IntKind}{z:Int}{e:List TV}(hx:aq ae l x=.vec 7 L tok)(hz:aq ae l i=.val (.int k z))(h0:0≤z)(he:L[z.toNat]?=some e):
  aJ prog ae (.indexAddr 127 x i) l (.elt e):=by
 obtain ⟨inf,i_at,i_size,_,_⟩:=qA
 exact dN (inf:=inf) underlying127 i_at (by rw [i_size];exact hx) hz h0 he
theorem Ds {x i:Operand}{l:List (Nat × TV)}{es:List (List TV)}{tok:Tok}{k:IntKind}{z:Int}{n:Nat}(hx:aq ae l x=.vec 7 es tok)(hz:aq ae l i=.val (.int k z))(h0:0≤z)(hn:z.toNat=n)(he:n≤es.length):aJ prog ae (.slice 127 x none (some i) none) l (.vec 7 (es.take n) .none):=by
 subst hn
 obtain ⟨inf,i1,i2,_,_⟩:=qA
 have h:=rK (inf:=inf) (P:=prog) (G:=ae) (x:=x) (i:=i) (l:=l) (es:=es) (tok:=tok) underlying127 i1 (by rw [i2];exact hx) hz h0 he
 rw [i2] at h
 exact h
theorem Dt {x i:Operand}{l:List (Nat × TV)}{es:List (List TV)}{tok:Tok}{k:IntKind}{z:Int}{n:Nat}(hx:aq ae l x=.vec 7 es tok)(hz:aq ae l i=.val (.int k z))(h0:0≤z)(hn:z.toNat=n)(he:n≤es.length):aJ prog ae (.slice 127 x (some i) none none) l (.vec 7 (es.drop n) tok):=by
 subst hn
 obtain ⟨inf,i1,i2,_,_⟩:=qA
 have h:=rL (inf:=inf) (P:=prog) (G:=ae) (x:=x) (i:=i) (l:=l) (es:=es) (tok:=tok) underlying127 i1 (by rw [i2];exact hx) hz h0 he
 rw [i2] at h
 exact h
theorem nY {T T1:VT}{s x:Operand}{l:List (Nat × TV)}{es es2:List (List TV)}{k n:Nat}{bn:Bool}(hs:cw T 7 (aq ae l s)=some (es,k,n,bn,T1))(hx:gL 7 (aq ae l x)=some es2)(hb:es.length+es2.length≤3000):
    aM prog ae 0 T (.call ⟨.builtin .append,#[s,x],#[127,127]⟩) l (.vec 7 (es++es2) (.tail k (n+es2.length))) {T1 with tails:=T1.tails.set k (n+es2.length,7,bn)}:=by
  obtain ⟨inf,i1,i2,i3,i4⟩:=qA
  have h:=iG (inf:=inf) (P:=prog) (G:=ae) (ro:=0) (T:=T) (T1:=T1) (t:=127) (tx:=127) (s:=s) (x:=x) (l:=l) (es:=es) (es2:=es2) (k:=k) (n:=n) (bn:=bn) underlying127 i1 i4 (by rw [i2];rfl) (by rw [i2];decide) (by kernel_rfl) (by rw [i2];exact hs) (by rw [i2];exact hx)
    (by have h1:=i3
        have h2:=Nat.mul_le_mul hb h1
        omega)
  rw [i2] at h
  exact h
def pF (L:List En)(f:Fl):Option Nat:=L.findIdx? λe=>yB e.1 f
def ix (L:List En)(f:Fl):Int:=match pF L f with
 |some k=>k
 |none=>-1
theorem Hq {L:List En}{f:Fl}:(pF L f=none∧ix L f=-1)∨∃k,pF L f=some k∧ix L f=k∧k<L.length:=by
 unfold ix
 cases h:pF L f with
 |none=>exact .inl ⟨rfl,rfl⟩
 |some k=>exact .inr ⟨k,rfl,rfl,(List.findIdx?_eq_some_iff_getElem.1 h).1⟩
theorem Ji {L:List En}{f:Fl}{j:Nat}{r:En}(h:L[j]?=some r)(hr:yB r.1 f=true)(hj:∀k r',k<j→L[k]?=some r'→yB r'.1 f=false):pF L f=some j:=by
 obtain ⟨hjl,h1⟩:=List.getElem?_eq_some_iff.1 h
 refine List.findIdx?_eq_some_iff_getElem.2 ⟨hjl,by simp [h1,hr],λk hk=> ?_⟩
 have:=hj k _ hk (getElem?_eq_getElem (by omega))
 simpa using this
theorem Hr {L:List En}{f:Fl}(hj:∀k r',k<L.length→L[k]?=some r'→yB r'.1 f=false):pF L f=none:=by
 refine List.findIdx?_eq_none_iff.2 λr hr=> ?_
 obtain ⟨k,hk,rfl⟩:=List.getElem_of_mem hr
 simpa using hj k _ hk (getElem?_eq_getElem hk)
section
variable (w c g:Int)
theorem Ac (L:List En)(l:List VO):VT.keep ⟨uO w (L.map aO) c g::l,[]⟩ 1 0=⟨[uO w (L.map aO) c g],[]⟩:=by
 have e1:=pE (ai 1) (ai 0) w c g L
 simp only [VT.keep,take_succ_cons,take_zero,map_cons,map_nil,e1]
theorem Hs (L:List En)(f:Fl)(l:List VO):VT.keep ⟨uO w (L.map aO) c g:: .cells (au f)::l,[]⟩ 2 0=⟨[uO w (L.map aO) c g,.cells (au f)],[]⟩:=by
 have e1:=pE (ai 2) (ai 0) w c g L
 simp only [VT.keep,take_succ_cons,take_zero,map_cons,map_nil,e1]
 rfl
theorem Jj (L:List En)(hl:L.length≤1000)(f:Fl):VCx prog ae 0 ri [.ptr 0 0,.agg (au f)] ⟨[uO w (L.map aO) c g],[]⟩ λx T'=>x=.val (.int .i64 (ix L f))∧T'=⟨[uO w (L.map aO) c g],[]⟩:=by
 have hloop:ek prog ae (LO w c g (L.map aO) (au f) (ix L f) (pF L f).isSome (ax prog ri 0)):=cq λp hp=>by
  obtain rfl:=mem_singleton.1 hp
  refine dA λK hK=> ?_
  let sl:Nat→List TV:=λj=>vU (L.map aO) 0 j
  let TT:VT:=⟨[uO w (L.map aO) c g,.cells (au f)],[]⟩
  let Post:Exit→List TV→VT→Prop:=λe vs T=>(∃k:Nat,∃cs,pF L f=some k∧e=.ret∧vs=vU (L.map aO) k k∧T=⟨[uO w (L.map aO) c g,.cells (au f),.cells cs],[]⟩)∨(pF L f=none∧e=.normal∧vs=sl L.length∧T=TT)
  refine fv (f:=ri) (id:=0) (by kernel_rfl) 23 z6 (λj=>L.length-j) sl (λ_=>TT) (λj=>j≤L.length∧∀k r',k<j→L[k]?=some r'→yB r'.1 f=false) 2 0 (λ_ _=>⟨le_refl _,le_refl _⟩)
   Post (λj hj=> ?_) 0 ⟨zero_le _,λk _ hk=>absurd hk (not_lt_zero k)⟩ K (λe vs T hq=> ?_)
  ·obtain ⟨hj,hne⟩:=hj
   by_cases hlt:j<L.length
   ·have hs:L[j]?=some L[j]:=getElem?_eq_getElem hlt
    generalize L[j]=r at hs
    have hw:=fV j (by omega)
    refine cn ah ag aw ak (Dn w c g (L.map aO) f.1 f.2.1 f.2.2.1 f.2.2.2.1 f.2.2.2.2 0 r.1.1 r.1.2.1 r.1.2.2.1 r.1.2.2.2.1 r.1.2.2.2.2 r.2.1 r.2.2 j _) ?_
    refine aZ (decide_eq_true (by rw [length_map];omega)) ⟨yC rfl rfl (natCast_nonneg _) (by simp only [toNat_natCast];rw [getElem?_map,hs];rfl),aL (λhe=> ?_) (λhe=> ?_)⟩
    ·have he':yB r.1 f=true:=he
     exact ⟨rfl,rfl,.inl ⟨j,_,Ji hs he' hne,rfl,rfl,rfl⟩⟩
    ·have he':yB r.1 f=false:=he
     refine ⟨rfl,rfl,j+1,⟨hlt,λk r' hk hr=> ?_⟩,by simp only;omega,.inr ⟨Hs w c g L f _,?_⟩⟩
     ·rcases lt_or_ge k j with h | h
      ·exact hne k r' h hr
      ·obtain rfl:k=j:=by omega
       rw [hs] at hr;injection hr with hr;subst hr;exact he'
     ·simp only [av,TV.ren,lw,Tok.ren]
      simp only [sl,vU,hw]
      rfl
   ·obtain rfl:j=L.length:=by omega
    refine cn ah ag aw ak (Dn w c g (L.map aO) f.1 f.2.1 f.2.2.1 f.2.2.2.1 f.2.2.2.2 0 0 0 0 0 0 0 0 L.length _) ?_
    exact aA (decide_eq_false (by rw [length_map];omega)) ⟨rfl,rfl,.inr ⟨Hr hne,rfl,rfl,rfl⟩⟩
  ·rcases hq with ⟨k,cs,h1,rfl,rfl,rfl⟩ | ⟨h1,rfl,rfl,rfl⟩
   ·simp only [h1,isSome_some,cond_true,ix] at hK
    exact hK cs
   ·simp only [h1,isSome_none,cond_false] at hK
    have e1:sl L.length=vU (L.map aO) 0 (L.map aO).length:=by simp only [sl,length_map]
    rw [e1]
    exact hK
 refine VCx.keepQ 1 0 (le_refl _) (le_refl _) (ap ah ag aw hloop (KY w c g (L.map aO) f.1 f.2.1 f.2.2.1 f.2.2.2.1 f.2.2.2.2 (ix L f) (pF L f).isSome _) ?_)
 refine ⟨rfl,⟨rfl,rfl,rfl,trivial,rfl,rfl,rfl⟩,?_⟩
 cases h:pF L f with
 |none=>exact aA rfl ⟨by simp only [ix,h];rfl,Ac w c g L _⟩
 |some k=>exact aZ rfl λcs=>⟨by simp only [ix,h];rfl,Ac w c g L _⟩
theorem Jk (L:List En)(hl:L.length≤1000)(k:Nat)(hk:k<L.length):VCx prog ae 0 F2 [.ptr 0 0,.val (.int .i64 k)] ⟨[uO w (L.map aO) c g],[]⟩ λx T'=>x=.tup []∧T'=⟨[uO w ((L.take k++L.drop (k+1)).map aO) c g],[]⟩:=by
 have hw:=fV k (by omega)
 have b1:((L.map aO).take k).length≤1000:=by rw [length_take,length_map];omega
 have b2:((L.map aO).drop (k+1)).length≤1000:=by rw [length_drop,length_map];omega
 refine VCx.keepQ 1 0 (le_refl _) (le_refl _) (ap ah ag aw ak (KZ w c g (L.map aO) k k _) ?_)
 refine ⟨Ds rfl rfl (natCast_nonneg _) (toNat_natCast _) (by rw [length_map];omega),Dt rfl rfl (by rw [hw];exact natCast_nonneg _) (by rw [hw];exact toNat_natCast _) (by rw [length_map];omega),?_,⟨rfl,rfl,trivial⟩,?_,rfl,?_⟩
 ·have o:=nY (T:=⟨[uO w (L.map aO) c g],[]⟩) (T1:=⟨[uO w (L.map aO) c g],[(0,7,false)]⟩) (s:=.tmp 5) (x:=.tmp 11) (l:= [(5,.vec 7 [] .full),(11,.vec 7 ((L.map aO).take k) .none)]) (es:= []) (es2:=(L.map aO).take k) (k:=0) (n:=0) (bn:=false) rfl rfl (by simp only [length_nil];omega)
  simp only [zero_add] at o
  exact o
 ·exact nY (T:=⟨[uO w (L.map aO) c g],[(((L.map aO).take k).length,7,false)]⟩) (T1:=⟨[uO w (L.map aO) c g],[(((L.map aO).take k).length,7,false)]⟩) (es:=(L.map aO).take k) (es2:=(L.map aO).drop (k+1)) (k:=0) (n:=((L.map aO).take k).length) (bn:=false) (by simp [aq,dU,cw]) rfl (by omega)
 ·have hm:(L.map aO).take k++(L.map aO).drop (k+1)=(L.take k++L.drop (k+1)).map aO:=by simp only [map_append,List.map_take,List.map_drop]
  rw [hm]
  simp only [VT.keep,take_succ_cons,take_zero,map_cons,map_nil,VO.ren,av,TV.ren,lw,Tok.ren,ai,uO]
  rfl
theorem Jl {f:FuncId}{ys0:List TV}{L L':List En}{x0:TV}(hy:av (aj [0]) (aj []) ys0=ys0)(hx:∀f g,x0.ren f g=x0)
  (hv:VCx prog ae 0 f ys0 ⟨[uO w (L.map aO) c g],[]⟩ λx T'=>x=x0∧T'=⟨[uO w (L'.map aO) c g],[]⟩) {T:VT} (ho:T.objs[0]?=some (uO w (L.map aO) c g)) {K:TV→VT→Prop} (hk:K x0 {T with objs:=T.objs.set 0 (uO w (L'.map aO) c g)}):
  VCx prog ae 0 f ys0 T K:=by
 have hg:T.give [0] []=⟨[uO w (L.map aO) c g],[]⟩:=by
  have:=pE (aj [0]) (aj []) w c g L
  simp only [VT.give,map_cons,map_nil,ho,getD_some,this]
 refine (VCx.lift (xs:=ys0) [0] [] bg (by simp) nodup_nil (λj hj=> ?_) (by simp) (λ_ _=>zero_le _) hy (by rw [hg];exact hv) (λx T' hq=> ?_)).mono ?_
 ·obtain rfl:=mem_singleton.1 hj;exact ⟨_,ho,rfl⟩
 ·rw [hq.2];exact ⟨le_refl 1,zero_le _⟩
 ·rintro x T' ⟨y,T2,⟨rfl,rfl⟩,rfl,rfl⟩
  have:=pE (an T.objs.length [0]) (an T.tails.length []) w c g L'
  simp only [VT.back,map_cons,map_nil,this,aT,append_nil,hx]
  exact hk
end
def F8 (L:List En):Prop:=L.length≤20
def uQ:TV→VT→Prop:=λx T'=>∃(e:En) (b:Bool) (L':List En) (c g:Int),x=.tup [.agg (aO e),.val (.bool b)]∧F8 L'∧T'=⟨[uO 0 (L'.map aO) c g],[]⟩
theorem Jm (c g:Int)(L:List En)(hl:F8 L)(f:Fl)(b:Int):VCx prog ae 0 yx [.ptr 0 0,.agg (au f),.val (.int .i64 b),.val (.int .i64 0)] ⟨[uO 0 (L.map aO) c g],[]⟩ uQ:=by
 have hl':L.length≤20:=hl
 let L1:Int→List En:=λi=>L.take i.toNat++L.drop (i.toNat+1)
 let ok:Int→Prop:=λi=>0≤i∧i.toNat<L.length
 have hC:aQ prog ae (az [(ri,F3 (L.map aO) (au f) (ix L f)),(F2,F4 (L.map aO) (λi=>(L1 i).map aO) ok)]):=aE λp hp=>by
  simp only [mem_cons,not_mem_nil,or_false] at hp
  rcases hp with rfl | rfl
  ·intro ro ys T K h
   have h':F3 (L.map aO) (au f) (ix L f) ro ys T K:=h
   clear h
   unfold F3 at h'
   split at h'
   ·rename_i ho
    obtain ⟨⟨rfl,rfl,rfl⟩,hk⟩:=h'
    refine Jl _ _ _ (L:=L) (L':=L) rfl (λ_ _=>rfl) (Jj _ _ _ L (by omega) f) ho ?_
    exact (congrArg (λl=>K _ {T with objs:=l}) (fA ho)).mpr hk
   ·exact h'.elim
  ·intro ro ys T K h
   have h':F4 (L.map aO) (λi=>(L1 i).map aO) ok ro ys T K:=h
   clear h
   unfold F4 at h'
   split at h'
   ·rename_i i w' L' c' g' ho
    obtain ⟨⟨rfl,rfl,hi,hi2⟩,hk⟩:=h'
    have e:(i.toNat:Int)=i:=Int.toNat_of_nonneg hi
    refine Jl _ _ _ (L:=L) (L':=L1 i) rfl (λ_ _=>rfl) ?_ ho hk
    have:=Jk w' c' g' L (by omega) i.toNat hi2
    rw [e] at this
    exact this
   ·exact h'.elim
 have app1:∀(M:List En) (objs:List VO),M.length≤20→aM prog ae 0 ⟨objs,[]⟩ (.call ⟨.builtin .append,#[.tmp 57,.tmp 61],#[127,127]⟩) [(57,.vec 7 [] .full),(61,.vec 7 (M.map aO) .none)] (.vec 7 (M.map aO) (.tail 0 (M.map aO).length)) ⟨objs,[((M.map aO).length,7,false)]⟩:=λM objs hM=>by
  have o:=nY (T:=⟨objs,[]⟩) (T1:=⟨objs,[(0,7,false)]⟩) (s:=.tmp 57) (x:=.tmp 61) (l:= [(57,.vec 7 [] .full),(61,.vec 7 (M.map aO) .none)]) (es:= []) (es2:=M.map aO) (k:=0) (n:=0) (bn:=false) rfl rfl (by simp only [length_nil,length_map];omega)
  simp only [zero_add] at o
  exact o
 have app2:∀(M:List En) (objs:List VO),M.length≤20→aM prog ae 0 ⟨objs,[((M.map aO).length,7,false)]⟩ (.call ⟨.builtin .append,#[.tmp 62,.tmp 67],#[127,127]⟩) [(62,.vec 7 (M.map aO) (.tail 0 (M.map aO).length)),(67,.vec 7 [i5 (au f) b 0] .full)] (.vec 7 (M.map aO++ [i5 (au f) b 0]) (.tail 0 ((M.map aO).length+1))) ⟨objs,[((M.map aO).length+1,7,false)]⟩:=λM objs hM=>
  nY (T:=⟨objs,[((M.map aO).length,7,false)]⟩) (T1:=⟨objs,[((M.map aO).length,7,false)]⟩) (es:=M.map aO) (es2:= [i5 (au f) b 0]) (k:=0) (n:=(M.map aO).length) (bn:=false) (by simp [aq,dU,cw]) rfl (by simp only [length_map,length_cons,length_nil];omega)
 have fin:∀(M:List En) (e:En) (q:Bool) (c g:Int) (l:List VO) (tl:List (Nat × Nat × Bool)),M.length≤19→uQ (.tup [.agg (aO e),.val (.bool q)]) (VT.keep ⟨.cells [.val (.int .i64 20),.val (.int .i64 100),.val (.int .i64 0),.vec 7 (M.map aO++ [i5 (au f) b 0]) (.tail 0 ((M.map aO).length+1)),.val (.int .i64 c),.val (.int .i64 g)]::l,tl⟩ 1 0):=λM e q c g l tl hM=>by
  refine ⟨e,q,M++ [(f,b,0)],c,g,rfl,by unfold F8;simp;omega,?_⟩
  have hm:M.map aO++ [i5 (au f) b 0]=(M++ [(f,b,0)]).map aO:=by simp [aO]
  rw [hm]
  simp only [VT.keep,take_succ_cons,take_zero,map_cons,map_nil,VO.ren,av,TV.ren,lw,Tok.ren,ai,uO]
  rfl
 have hr:∀M,M=(bif decide (ix L f≥0) then L1 (ix L f) else bif decide (L.length≥20) then L1 0 else L)→VCx prog ae 0 yx [.ptr 0 0,.agg (au f),.val (.int .i64 b),.val (.int .i64 0)] ⟨[uO 0 (L.map aO) c g],[]⟩ uQ:=λM hM=>by
  have hd:∃e:En,L.length≥20→L[0]?=some e:=by
   cases L with
   |nil=>exact ⟨(((0,0,0,0,0),0,0)),λh=>by simp at h⟩
   |cons a l=>exact ⟨a,λ_=>rfl⟩
  obtain ⟨e,he⟩:=hd
  refine VCx.keepQ 1 0 (le_refl _) (le_refl _) (ap ah ag hC ak (K0 c g (L.map aO) (M.map aO) (λi=>(L1 i).map aO) ok f.1 f.2.1 f.2.2.1 f.2.2.2.1 f.2.2.2.2 b (ix L f) e.1.1 e.1.2.1 e.1.2.2.1 e.1.2.2.2.1 e.1.2.2.2.2 e.2.1 e.2.2 _) ?_)
  refine ⟨⟨rfl,rfl,rfl⟩,aL (λh1=> ?_) (λh1=>aL (λh2=> ?_) (λh2=> ?_))⟩
  ·rw [h1,cond_true] at hM
   subst hM
   rcases Hq (L:=L) (f:=f) with ⟨_,hz⟩ | ⟨k,_,hz,hk⟩
   ·rw [hz] at h1;simp at h1
   ·have hlen:(L1 (ix L f)).length≤19:=by
     simp only [L1,hz,toNat_natCast,length_append,length_take,length_drop];omega
    exact ⟨⟨rfl,rfl,by rw [hz];exact natCast_nonneg _,by rw [hz,toNat_natCast];exact hk⟩,app1 _ _ (by omega),⟨rfl,rfl,trivial⟩,app2 _ _ (by omega),fin _ ((0,0,0,0,0),0,0) _ _ _ _ _ hlen⟩
  ·have h2':L.length≥20:=by simp at h2;omega
   rw [h1,cond_false,decide_eq_true h2',cond_true] at hM
   subst hM
   have hlen:(L1 0).length≤19:=by
    simp only [L1,Int.toNat_zero,length_append,length_take,length_drop];omega
   exact ⟨yC rfl rfl (by decide) (by have:=he h2';simp only [Int.toNat_zero];rw [getElem?_map,this];rfl),⟨rfl,rfl,by decide,by show 0<_;omega⟩,app1 _ _ (by omega),⟨rfl,rfl,trivial⟩,app2 _ _ (by omega),fin _ e _ _ _ _ _ hlen⟩
  ·have h2':¬L.length≥20:=by simp at h2;omega
   rw [h1,cond_false,decide_eq_false h2',cond_false] at hM
   subst hM
   exact ⟨app1 _ _ (by omega),⟨rfl,rfl,trivial⟩,app2 _ _ (by omega),fin _ ((0,0,0,0,0),0,0) _ _ _ _ _ (by omega)⟩
 exact hr _ rfl
end
abbrev vW:=71
abbrev vX:=72
abbrev yD:=87
abbrev F9:=70
abbrev pG:=35
abbrev Du:=9
def kF:KS:=⟨true,[.int .i64,.int .u32,.int .u32,.int .i64,.int .i64]⟩
def aB (x:Nat→VO):List VO:=(List.range 101).map x
def ml (now came went:Int):VO:=.cells [.val (.int .i64 20),.val (.int .i64 100),.val (.int .i64 now),.map 5,.ptr 4 0,.val (.int .i64 came),.val (.int .i64 went)]
def cj (o:Nat→VO)(rg:VO)(lk:Value→Option TV)(es:Es)(ck:Nat)(now came went:Int):List VO:= [o 0,o 1,o 2,o 3,rg,.map kF lk es ck,ml now came went,o 7,o 8,o 9,o 10,o 11,o 12,o 13,o 14,o 15]
def fy (o:Nat→VO)(rg:VO)(lk:Value→Option TV)(es:Es)(ck:Nat)(now came went:Int)(x:Nat→VO)(y:List VO):VT:=⟨cj o rg lk es ck now came went++(aB x++y),[]⟩
def Ga (T:VT)(rg:VO)(x:Nat→VO):VT:=⟨(T.objs.take 16).set 4 rg++(aB x++T.objs.drop 117),T.tails⟩
def Jn (T:VT)(e:Nat)(rg:VO)(x:Nat→VO)(lk:VO):VT:=⟨(T.objs.take 16).set 4 rg++(aB x++(T.objs.drop 117).set (e-117) lk),T.tails⟩
def MB (T:VT)(x:Nat→VO):VT:=⟨T.objs.take 16++(aB x++T.objs.drop 117),T.tails⟩
def Gc (T:VT)(rg mp:VO)(x:Nat→VO):VT:=⟨((T.objs.take 16).set 4 rg).set 5 mp++(aB x++T.objs.drop 117),T.tails⟩
def Ge (T:VT)(rg mp tb:VO)(x:Nat→VO):VT:=⟨(((T.objs.take 16).set 4 rg).set 5 mp).set 6 tb++(aB x++T.objs.drop 117),T.tails⟩
def Ad (p:Nat)(Pre:VT→Prop)(rg:VO)(x:Nat→VO):ba:=λro ys T K=>(ro=0∧ys= [.ptr p 0]∧Pre T)∧K (.tup []) (Ga T rg x)
def Gf (p:Nat)(Pre:VT→Prop)(rg:VO)(x:Nat→VO):ba:=λro ys T K=>(ro=0∧ys= [.ptr 6 0,.ptr p 0]∧Pre T)∧K (.tup []) (Ga T rg x)
def LP (e:Nat)(Pre:VT→Prop)(rg:VO)(x:Nat→VO)(lk:VO):ba:=λro ys T K=>(ro=0∧ys= [.ptr 6 0,.ptr e 0]∧Pre T)∧K (.tup []) (Jn T e rg x lk)
def Dv (p:Nat)(Pre:VT→Prop)(rg mp:VO)(x:Nat→VO):ba:=λro ys T K=>(ro=0∧ys= [.ptr 6 0,.ptr p 0]∧Pre T)∧K (.tup []) (Gc T rg mp x)
def LR (Pre:VT→Prop)(en:En)(b:Bool)(rg mp tb:VO)(x:Nat→VO):ba:=λro ys T K=>(ro=0∧ys= [.ptr 6 0]∧Pre T)∧K (.tup [.agg (aO en),.val (.bool b)]) (Ge T rg mp tb x)
theorem K1 (T T1 T2:VT)(p a c:Nat)(Q:TV→VT→Prop):aH prog ae cT (bp [(999998,.dead,none),(999999,.dead,none),(5,.ptr a 0,none),(9,.ptr c 0,none),(13,.ptr c 0,none),(17,.ptr a 0,none),(500019,.val undef,some λ_=>T1),(500021,.val undef,some λ_=>T2)]) 300 bo 0 vW [.ptr p 0] T Q=
 (cm prog (λ_=>.none) (T) false (.load 96 (.tmp 4)) [(4,(.ptr p 7))] (cJ a)∧
 (cm prog (λ_=>.none) (T) false (.load 96 (.tmp 8)) [(8,(.ptr p 8))] (cJ c)∧
 (cm prog (λ_=>.none) (T) false (.load 96 (.tmp 12)) [(12,(.ptr p 8))] (cJ c)∧
 (cm prog (λ_=>.none) (T) false (.load 96 (.tmp 16)) [(16,(.ptr p 7))] (cJ a)∧
 (aM prog (λ_=>.none) 0 (T) (.store 96 (.tmp 19) (.tmp 13)) [(19,(.ptr a 8)),(13,(cJ c))] (.val (.tuple #[])) (T1)∧
 (aM prog (λ_=>.none) 0 (T1) (.store 96 (.tmp 21) (.tmp 17)) [(21,(.ptr c 7)),(17,(cJ a))] (.val (.tuple #[])) (T2)∧
 Q (.tup []) (T2))))))):=by kernel_rfl
theorem K2 (T T1 T2 T3 T4 T5:VT)(p r a:Nat)(now:Int)(Q:TV→VT→Prop):aH prog ae cT (bp [(999998,.dead,none),(999999,.dead,none),(8,.val (.int .i64 now),some λT=>T),(500011,.val undef,some λ_=>T1),(17,.ptr r 0,none),(20,.ptr a 0,none),(24,.ptr r 0,none),(500026,.val undef,some λ_=>T2),(500028,.val undef,some λ_=>T3),(32,.ptr a 0,none),(36,.ptr r 0,none),(500040,.val undef,some λ_=>T4),(500042,.val undef,some λ_=>T5)]) 300 bo 0 vX [.ptr 6 0,.ptr p 0] T Q=
 (aM prog (λ_=>.none) 0 (T) (.load 3 (.tmp 7)) [(7,(.ptr 6 2))] (ar now) (T)∧
 (aM prog (λ_=>.none) 0 (T) (.store 3 (.tmp 11) (.tmp 8)) [(11,(.ptr p 6)),(8,(ar now))] (.val (.tuple #[])) (T1)∧
 (cm prog (λ_=>.none) (T1) false (.load 96 (.tmp 16)) [(16,(.ptr 6 4))] (cJ r)∧
 (cm prog (λ_=>.none) (T1) false (.load 96 (.tmp 19)) [(19,(.ptr r 7))] (cJ a)∧
 (cm prog (λ_=>.none) (T1) false (.load 96 (.tmp 23)) [(23,(.ptr 6 4))] (cJ r)∧
 (aM prog (λ_=>.none) 0 (T1) (.store 96 (.tmp 26) (.tmp 20)) [(26,(.ptr p 7)),(20,(cJ a))] (.val (.tuple #[])) (T2)∧
 (aM prog (λ_=>.none) 0 (T2) (.store 96 (.tmp 28) (.tmp 24)) [(28,(.ptr p 8)),(24,(cJ r))] (.val (.tuple #[])) (T3)∧
 (cm prog (λ_=>.none) (T3) false (.load 96 (.tmp 31)) [(31,(.ptr p 7))] (cJ a)∧
 (cm prog (λ_=>.none) (T3) false (.load 96 (.tmp 35)) [(35,(.ptr 6 4))] (cJ r)∧
 (aM prog (λ_=>.none) 0 (T3) (.store 96 (.tmp 40) (.tmp 37)) [(40,(.ptr a 8)),(37,(cJ p))] (.val (.tuple #[])) (T4)∧
 (aM prog (λ_=>.none) 0 (T4) (.store 96 (.tmp 42) (.tmp 38)) [(42,(.ptr r 7)),(38,(cJ p))] (.val (.tuple #[])) (T5)∧
 Q (.tup []) (T5)))))))))))):=by kernel_rfl
theorem K3 (o:Nat→VO)(rg:VO)(lk:Value→Option TV)(es:Es)(ck:Nat)(now came went:Int)(x:Nat→VO)(y:List VO)(rg1:VO)(x1:Nat→VO)(p:Nat)(f:Fl)(Pre:VT→Prop)(Q:TV→VT→Prop):aH prog ae (az [(vW,Ad p Pre rg1 x1)]) (bp [(999998,.dead,none),(14,.agg (au f),none)]) 300 bo 0 yD [.ptr 6 0,.ptr p 0] (fy o rg lk es ck now came went x y) Q=
 (((@Eq (Nat) 0 0)∧
 ((@Eq (List TV) [(cJ p)] [(cJ p)])∧
 Pre ⟨(([(o (0:Nat)),(o (1:Nat)),(o (2:Nat)),(o (3:Nat)),(rg),(.map ⟨true,[(.int .i64),(.int .u32),(.int .u32),(.int .i64),(.int .i64)]⟩ (lk) (es) (ck)),(EU now (.map 5) came went),(o (7:Nat)),(o (8:Nat)),(o (9:Nat)),(o (10:Nat)),(o (11:Nat)),(o (12:Nat)),(o (13:Nat)),(o (14:Nat)),(o (15:Nat))]++(aB x++ []))++y),[]⟩))∧
 (cm prog (λ_=>.none) ⟨(([(o (0:Nat)),(o (1:Nat)),(o (2:Nat)),(o (3:Nat)),(rg1),(.map ⟨true,[(.int .i64),(.int .u32),(.int .u32),(.int .i64),(.int .i64)]⟩ (lk) (es) (ck)),(EU now (.map 5) came went),(o (7:Nat)),(o (8:Nat)),(o (9:Nat)),(o (10:Nat)),(o (11:Nat)),(o (12:Nat)),(o (13:Nat)),(o (14:Nat)),(o (15:Nat))]++(aB x1++ []))++y),[]⟩ false (.load 31 (.tmp 13)) [(13,(cJ p))] (cR (fst f) (fst (snd f)) (fst (snd (snd f))) (fst (snd (snd (snd f)))) (snd (snd (snd (snd f)))))∧
 Q (.tup []) ⟨(([(o (0:Nat)),(o (1:Nat)),(o (2:Nat)),(o (3:Nat)),(rg1),(.map ⟨true,[(.int .i64),(.int .u32),(.int .u32),(.int .i64),(.int .i64)]⟩ (λkk=>(bif am
  ((λvs=>Value.agg (toArray vs))
    ((λx=>Value.int i64 (fst f)::x) ((λx=>Value.int u32 (fst (snd f))::x) ((λx=>Value.int u32 (fst (snd (snd f)))::x) ((λx=>Value.int i64 (fst (snd (snd (snd f))))::x) ((λx=>Value.int i64 (snd (snd (snd (snd f))))::x) []))))))
  kk then .none else (lk kk))) (df
  ((λvs=>Value.agg (toArray vs))
    ((λx=>Value.int i64 (fst f)::x) ((λx=>Value.int u32 (fst (snd f))::x) ((λx=>Value.int u32 (fst (snd (snd f)))::x) ((λx=>Value.int i64 (fst (snd (snd (snd f))))::x) ((λx=>Value.int i64 (snd (snd (snd (snd f))))::x) []))))))
  es) (ck)),(EU now (.map 5) came went),(o (7:Nat)),(o (8:Nat)),(o (9:Nat)),(o (10:Nat)),(o (11:Nat)),(o (12:Nat)),(o (13:Nat)),(o (14:Nat)),(o (15:Nat))]++(aB x1++ []))++y),[]⟩)):=by kernel_rfl
theorem Gg (o:Nat→VO)(rg:VO)(lk:Value→Option TV)(es:Es)(ck:Nat)(now came went:Int)(x:Nat→VO)(y0 y1 y2 y3:VO)(rg1 mp1:VO)(x1:Nat→VO)(p:Nat)(en:En)(Pre:VT→Prop)(Q:TV→VT→Prop):aH prog ae (az [(yD,Dv p Pre rg1 mp1 x1)]) (bp [(999998,.dead,none),(22,.ptr p 0,some λT=>T),(36,.agg (aO en),some λT=>T)]) 300 bo 0 F9 [.ptr 6 0] (fy o rg lk es ck now came went x [y0,y1,y2,y3]) Q=
 (bif decide ((↑(length es):Int)<(20:Int))
 then Q ET ⟨[(o (0:Nat)),(o (1:Nat)),(o (2:Nat)),(o (3:Nat)),(rg),(.map ⟨true,[(.int .i64),(.int .u32),(.int .u32),(.int .i64),(.int .i64)]⟩ (lk) (es) (ck)),(.cells [(.val (.int .i64 20)),(.val (.int .i64 100)),(.val (.int .i64 (now))),(.map 5),(.ptr 4 0),(.val (.int .i64 (came))),(.val (.int .i64 (went)))]),(o (7:Nat)),(o (8:Nat)),(o (9:Nat)),(o (10:Nat)),(o (11:Nat)),(o (12:Nat)),(o (13:Nat)),(o (14:Nat)),(o (15:Nat))]++(aB x++ [(y0),(y1),(y2),(y3),(.cells [(.val (.int .i64 0)),(.val (.int .u32 0)),(.val (.int .u32 0)),(.val (.int .i64 0)),(.val (.int .i64 0)),(.val (.int .i64 0)),(.val (.int .i64 0))])]),[]⟩
 else (aM prog (λ_=>.none) 0 ⟨[(o (0:Nat)),(o (1:Nat)),(o (2:Nat)),(o (3:Nat)),(rg),(.map ⟨true,[(.int .i64),(.int .u32),(.int .u32),(.int .i64),(.int .i64)]⟩ (lk) (es) (ck)),(.cells [(.val (.int .i64 20)),(.val (.int .i64 100)),(.val (.int .i64 (now))),(.map 5),(.ptr 4 0),(.val (.int .i64 (came))),(.val (.int .i64 (went)))]),(o (7:Nat)),(o (8:Nat)),(o (9:Nat)),(o (10:Nat)),(o (11:Nat)),(o (12:Nat)),(o (13:Nat)),(o (14:Nat)),(o (15:Nat))]++(aB x++ [(y0),(y1),(y2),(y3),(.cells [(.val (.int .i64 0)),(.val (.int .u32 0)),(.val (.int .u32 0)),(.val (.int .i64 0)),(.val (.int .i64 0)),(.val (.int .i64 0)),(.val (.int .i64 0))])]),[]⟩ (.load 96 (.tmp 21)) [(21,(.ptr 4 8))] (cJ p) ⟨[(o (0:Nat)),(o (1:Nat)),(o (2:Nat)),(o (3:Nat)),(rg),(.map ⟨true,[(.int .i64),(.int .u32),(.int .u32),(.int .i64),(.int .i64)]⟩ (lk) (es) (ck)),(.cells [(.val (.int .i64 20)),(.val (.int .i64 100)),(.val (.int .i64 (now))),(.map 5),(.ptr 4 0),(.val (.int .i64 (came))),(.val (.int .i64 (went)))]),(o (7:Nat)),(o (8:Nat)),(o (9:Nat)),(o (10:Nat)),(o (11:Nat)),(o (12:Nat)),(o (13:Nat)),(o (14:Nat)),(o (15:Nat))]++(aB x++ [(y0),(y1),(y2),(y3),(.cells [(.val (.int .i64 0)),(.val (.int .u32 0)),(.val (.int .u32 0)),(.val (.int .i64 0)),(.val (.int .i64 0)),(.val (.int .i64 0)),(.val (.int .i64 0))])]),[]⟩∧
 (((@Eq (Nat) 0 0)∧
 ((@Eq (List TV) (pq p) (pq p))∧
 Pre ⟨[(o (0:Nat)),(o (1:Nat)),(o (2:Nat)),(o (3:Nat)),(rg),(.map ⟨true,[(.int .i64),(.int .u32),(.int .u32),(.int .i64),(.int .i64)]⟩ (lk) (es) (ck)),(.cells [(.val (.int .i64 20)),(.val (.int .i64 100)),(.val (.int .i64 (now))),(.map 5),(.ptr 4 0),(.val (.int .i64 (came))),(.val (.int .i64 (went)))]),(o (7:Nat)),(o (8:Nat)),(o (9:Nat)),(o (10:Nat)),(o (11:Nat)),(o (12:Nat)),(o (13:Nat)),(o (14:Nat)),(o (15:Nat))]++(aB x++ [(y0),(y1),(y2),(y3),(.cells [(.val (.int .i64 0)),(.val (.int .u32 0)),(.val (.int .u32 0)),(.val (.int .i64 0)),(.val (.int .i64 0)),(.val (.int .i64 0)),(.val (.int .i64 0))])]),[]⟩))∧
 (aM prog (λ_=>.none) 0 ⟨[(o (0:Nat)),(o (1:Nat)),(o (2:Nat)),(o (3:Nat)),(rg1),(mp1),(.cells [(.val (.int .i64 20)),(.val (.int .i64 100)),(.val (.int .i64 (now))),(.map 5),(.ptr 4 0),(.val (.int .i64 (came))),(.val (.int .i64 (wrap i64 (went+(1:Int)))))]),(o (7:Nat)),(o (8:Nat)),(o (9:Nat)),(o (10:Nat)),(o (11:Nat)),(o (12:Nat)),(o (13:Nat)),(o (14:Nat)),(o (15:Nat))]++(aB x1++ [(y0),(y1),(y2),(y3),(.cells [(.val (.int .i64 0)),(.val (.int .u32 0)),(.val (.int .u32 0)),(.val (.int .i64 0)),(.val (.int .i64 0)),(.val (.int .i64 0)),(.val (.int .i64 0))])]),[]⟩ (.load 49 (.tmp 35)) [(35,(cJ p))] (xM (fst (fst en)) (fst (snd (fst en))) (fst (snd (snd (fst en)))) (fst (snd (snd (snd (fst en))))) (snd (snd (snd (snd (fst en))))) (fst (snd en)) (snd (snd en))) ⟨[(o (0:Nat)),(o (1:Nat)),(o (2:Nat)),(o (3:Nat)),(rg1),(mp1),(.cells [(.val (.int .i64 20)),(.val (.int .i64 100)),(.val (.int .i64 (now))),(.map 5),(.ptr 4 0),(.val (.int .i64 (came))),(.val (.int .i64 (wrap i64 (went+(1:Int)))))]),(o (7:Nat)),(o (8:Nat)),(o (9:Nat)),(o (10:Nat)),(o (11:Nat)),(o (12:Nat)),(o (13:Nat)),(o (14:Nat)),(o (15:Nat))]++(aB x1++ [(y0),(y1),(y2),(y3),(.cells [(.val (.int .i64 0)),(.val (.int .u32 0)),(.val (.int .u32 0)),(.val (.int .i64 0)),(.val (.int .i64 0)),(.val (.int .i64 0)),(.val (.int .i64 0))])]),[]⟩∧
 Q (.tup [(xM (fst (fst en)) (fst (snd (fst en))) (fst (snd (snd (fst en)))) (fst (snd (snd (snd (fst en))))) (snd (snd (snd (snd (fst en))))) (fst (snd en)) (snd (snd en))),ip]) ⟨[(o (0:Nat)),(o (1:Nat)),(o (2:Nat)),(o (3:Nat)),(rg1),(mp1),(.cells [(.val (.int .i64 20)),(.val (.int .i64 100)),(.val (.int .i64 (now))),(.map 5),(.ptr 4 0),(.val (.int .i64 (came))),(.val (.int .i64 (wrap i64 (went+(1:Int)))))]),(o (7:Nat)),(o (8:Nat)),(o (9:Nat)),(o (10:Nat)),(o (11:Nat)),(o (12:Nat)),(o (13:Nat)),(o (14:Nat)),(o (15:Nat))]++(aB x1++ [(y0),(y1),(y2),(y3),(.cells [(.val (.int .i64 (fst (fst en)))),(.val (.int .u32 (fst (snd (fst en))))),(.val (.int .u32 (fst (snd (snd (fst en)))))),(.val (.int .i64 (fst (snd (snd (snd (fst en))))))),(.val (.int .i64 (snd (snd (snd (snd (fst en))))))),(.val (.int .i64 (fst (snd en)))),(.val (.int .i64 (snd (snd en))))])]),[]⟩)))):=by kernel_rfl
theorem Jo (o:Nat→VO)(rg:VO)(lk:Value→Option TV)(es:Es)(ck:Nat)(now came went:Int)(x:Nat→VO)(z:VO)(rg1 rg3:VO)(x1 x2 x3:Nat→VO)(p:Nat)(f:Fl)(b n:Int)(Pre Pre2:VT→Prop)(Q:TV→VT→Prop):aH prog ae (az [(vW,Ad p Pre rg1 x1),(vX,Gf p Pre2 rg3 x3)]) (bp [(999998,.dead,none),(25,.ptr p 0,none),(500056,.val undef,some λT=>MB T x2)]) 300 bo 0 pG [.ptr 6 0,.agg (au f),.val (.int .i64 b),.val (.int .i64 n)] (fy o rg lk es ck now came went x [z]) Q=
 (cm prog (λ_=>.none) ⟨[(o (0:Nat)),(o (1:Nat)),(o (2:Nat)),(o (3:Nat)),(rg),(.map ⟨true,[(.int .i64),(.int .u32),(.int .u32),(.int .i64),(.int .i64)]⟩ (lk) (es) (ck)),(.cells [(.val (.int .i64 20)),(.val (.int .i64 100)),(.val (.int .i64 (if n>now then n else now))),(.map 5),(.ptr 4 0),(.val (.int .i64 (came))),(.val (.int .i64 (went)))]),(o (7:Nat)),(o (8:Nat)),(o (9:Nat)),(o (10:Nat)),(o (11:Nat)),(o (12:Nat)),(o (13:Nat)),(o (14:Nat)),(o (15:Nat))]++(aB x++ [(z),(.cells [(.val (.int .i64 (fst f))),(.val (.int .u32 (fst (snd f)))),(.val (.int .u32 (fst (snd (snd f))))),(.val (.int .i64 (fst (snd (snd (snd f)))))),(.val (.int .i64 (snd (snd (snd (snd f))))))]),(.cells [(.val (.int .i64 0)),(.val (.int .u32 0)),(.val (.int .u32 0)),(.val (.int .i64 0)),(.val (.int .i64 0)),(.val (.int .i64 0)),(.val (.int .i64 0))]),(.cells [(.val (.int .i64 0)),(.val (.int .u32 0)),(.val (.int .u32 0)),(.val (.int .i64 0)),(.val (.int .i64 0)),(.val (.int .i64 0)),(.val (.int .i64 0))])]),[]⟩ false (.lookup 97 (.tmp 23) (.tmp 24) false) [(23,(.map 5)),(24,(cR (fst f) (fst (snd f)) (fst (snd (snd f))) (fst (snd (snd (snd f)))) (snd (snd (snd (snd f))))))] (cJ p)∧
 (((@Eq (Nat) 0 0)∧
 ((@Eq (List TV) [(cJ p)] [(cJ p)])∧
 Pre ⟨[(o (0:Nat)),(o (1:Nat)),(o (2:Nat)),(o (3:Nat)),(rg),(.map ⟨true,[(.int .i64),(.int .u32),(.int .u32),(.int .i64),(.int .i64)]⟩ (lk) (es) (ck)),(.cells [(.val (.int .i64 20)),(.val (.int .i64 100)),(.val (.int .i64 (if n>now then n else now))),(.map 5),(.ptr 4 0),(.val (.int .i64 (came))),(.val (.int .i64 (went)))]),(o (7:Nat)),(o (8:Nat)),(o (9:Nat)),(o (10:Nat)),(o (11:Nat)),(o (12:Nat)),(o (13:Nat)),(o (14:Nat)),(o (15:Nat))]++(aB x++ [(z),(.cells [(.val (.int .i64 (fst f))),(.val (.int .u32 (fst (snd f)))),(.val (.int .u32 (fst (snd (snd f))))),(.val (.int .i64 (fst (snd (snd (snd f)))))),(.val (.int .i64 (snd (snd (snd (snd f))))))]),(.cells [(.val (.int .i64 0)),(.val (.int .u32 0)),(.val (.int .u32 0)),(.val (.int .i64 0)),(.val (.int .i64 0)),(.val (.int .i64 0)),(.val (.int .i64 0))]),(.cells [(.val (.int .i64 0)),(.val (.int .u32 0)),(.val (.int .u32 0)),(.val (.int .i64 0)),(.val (.int .i64 0)),(.val (.int .i64 0)),(.val (.int .i64 0))])]),[]⟩))∧
 (aM prog (λ_=>.none) 0 ⟨[(o (0:Nat)),(o (1:Nat)),(o (2:Nat)),(o (3:Nat)),(rg1),(.map ⟨true,[(.int .i64),(.int .u32),(.int .u32),(.int .i64),(.int .i64)]⟩ (lk) (es) (ck)),(.cells [(.val (.int .i64 20)),(.val (.int .i64 100)),(.val (.int .i64 (if n>now then n else now))),(.map 5),(.ptr 4 0),(.val (.int .i64 (came))),(.val (.int .i64 (went)))]),(o (7:Nat)),(o (8:Nat)),(o (9:Nat)),(o (10:Nat)),(o (11:Nat)),(o (12:Nat)),(o (13:Nat)),(o (14:Nat)),(o (15:Nat))]++(aB x1++ [(z),(.cells [(.val (.int .i64 (fst f))),(.val (.int .u32 (fst (snd f)))),(.val (.int .u32 (fst (snd (snd f))))),(.val (.int .i64 (fst (snd (snd (snd f)))))),(.val (.int .i64 (snd (snd (snd (snd f))))))]),(.cells [(.val (.int .i64 0)),(.val (.int .u32 0)),(.val (.int .u32 0)),(.val (.int .i64 0)),(.val (.int .i64 0)),(.val (.int .i64 0)),(.val (.int .i64 0))]),(.cells [(.val (.int .i64 0)),(.val (.int .u32 0)),(.val (.int .u32 0)),(.val (.int .i64 0)),(.val (.int .i64 0)),(.val (.int .i64 0)),(.val (.int .i64 0))])]),[]⟩ (.store 3 (.tmp 56) (.tmp 53)) [(56,(.ptr p 5)),(53,(ar b))] (.val (.tuple #[])) ⟨[(o (0:Nat)),(o (1:Nat)),(o (2:Nat)),(o (3:Nat)),(rg1),(.map ⟨true,[(.int .i64),(.int .u32),(.int .u32),(.int .i64),(.int .i64)]⟩ (lk) (es) (ck)),(.cells [(.val (.int .i64 20)),(.val (.int .i64 100)),(.val (.int .i64 (if n>now then n else now))),(.map 5),(.ptr 4 0),(.val (.int .i64 (came))),(.val (.int .i64 (went)))]),(o (7:Nat)),(o (8:Nat)),(o (9:Nat)),(o (10:Nat)),(o (11:Nat)),(o (12:Nat)),(o (13:Nat)),(o (14:Nat)),(o (15:Nat))]++(aB x2++ [(z),(.cells [(.val (.int .i64 (fst f))),(.val (.int .u32 (fst (snd f)))),(.val (.int .u32 (fst (snd (snd f))))),(.val (.int .i64 (fst (snd (snd (snd f)))))),(.val (.int .i64 (snd (snd (snd (snd f))))))]),(.cells [(.val (.int .i64 0)),(.val (.int .u32 0)),(.val (.int .u32 0)),(.val (.int .i64 0)),(.val (.int .i64 0)),(.val (.int .i64 0)),(.val (.int .i64 0))]),(.cells [(.val (.int .i64 0)),(.val (.int .u32 0)),(.val (.int .u32 0)),(.val (.int .i64 0)),(.val (.int .i64 0)),(.val (.int .i64 0)),(.val (.int .i64 0))])]),[]⟩∧
 (((@Eq (Nat) 0 0)∧
 ((@Eq (List TV) (pq p) (pq p))∧
 Pre2 ⟨[(o (0:Nat)),(o (1:Nat)),(o (2:Nat)),(o (3:Nat)),(rg1),(.map ⟨true,[(.int .i64),(.int .u32),(.int .u32),(.int .i64),(.int .i64)]⟩ (lk) (es) (ck)),(.cells [(.val (.int .i64 20)),(.val (.int .i64 100)),(.val (.int .i64 (if n>now then n else now))),(.map 5),(.ptr 4 0),(.val (.int .i64 (came))),(.val (.int .i64 (went)))]),(o (7:Nat)),(o (8:Nat)),(o (9:Nat)),(o (10:Nat)),(o (11:Nat)),(o (12:Nat)),(o (13:Nat)),(o (14:Nat)),(o (15:Nat))]++(aB x2++ [(z),(.cells [(.val (.int .i64 (fst f))),(.val (.int .u32 (fst (snd f)))),(.val (.int .u32 (fst (snd (snd f))))),(.val (.int .i64 (fst (snd (snd (snd f)))))),(.val (.int .i64 (snd (snd (snd (snd f))))))]),(.cells [(.val (.int .i64 0)),(.val (.int .u32 0)),(.val (.int .u32 0)),(.val (.int .i64 0)),(.val (.int .i64 0)),(.val (.int .i64 0)),(.val (.int .i64 0))]),(.cells [(.val (.int .i64 0)),(.val (.int .u32 0)),(.val (.int .u32 0)),(.val (.int .i64 0)),(.val (.int .i64 0)),(.val (.int .i64 0)),(.val (.int .i64 0))])]),[]⟩))∧
 Q ET ⟨[(o (0:Nat)),(o (1:Nat)),(o (2:Nat)),(o (3:Nat)),(rg3),(.map ⟨true,[(.int .i64),(.int .u32),(.int .u32),(.int .i64),(.int .i64)]⟩ (lk) (es) (ck)),(.cells [(.val (.int .i64 20)),(.val (.int .i64 100)),(.val (.int .i64 (if n>now then n else now))),(.map 5),(.ptr 4 0),(.val (.int .i64 (came))),(.val (.int .i64 (went)))]),(o (7:Nat)),(o (8:Nat)),(o (9:Nat)),(o (10:Nat)),(o (11:Nat)),(o (12:Nat)),(o (13:Nat)),(o (14:Nat)),(o (15:Nat))]++(aB x3++ [(z),(.cells [(.val (.int .i64 (fst f))),(.val (.int .u32 (fst (snd f)))),(.val (.int .u32 (fst (snd (snd f))))),(.val (.int .i64 (fst (snd (snd (snd f)))))),(.val (.int .i64 (snd (snd (snd (snd f))))))]),(.cells [(.val (.int .i64 0)),(.val (.int .u32 0)),(.val (.int .u32 0)),(.val (.int .i64 0)),(.val (.int .i64 0)),(.val (.int .i64 0)),(.val (.int .i64 0))]),(.cells [(.val (.int .i64 0)),(.val (.int .u32 0)),(.val (.int .u32 0)),(.val (.int .i64 0)),(.val (.int .i64 0)),(.val (.int .i64 0)),(.val (.int .i64 0))])]),[]⟩)))):=by kernel_rfl
theorem Jp (o:Nat→VO)(rg:VO)(lk:Value→Option TV)(es:Es)(ck:Nat)(now came went:Int)(x:Nat→VO)(z:VO)(rg1 rg3 lk3:VO)(lk1:Value→Option TV)(es1:Es)(ck1:Nat)(now1 came1 went1:Int)(x1 x3:Nat→VO)(f:Fl)(en:En)(q:Bool)(b n:Int)(Pre Pre2:VT→Prop)(Q:TV→VT→Prop):aH prog ae (az [(F9,LR Pre en q rg1 (.map kF lk1 es1 ck1) (ml now1 came1 went1) x1),(vX,LP 121 Pre2 rg3 x3 lk3)]) (bp [(999998,.dead,none),(25,.val (.pointer none),none)]) 300 bo 0 pG [.ptr 6 0,.agg (au f),.val (.int .i64 b),.val (.int .i64 n)] (fy o rg lk es ck now came went x [z]) Q=
 (cm prog (λ_=>.none) ⟨[(o (0:Nat)),(o (1:Nat)),(o (2:Nat)),(o (3:Nat)),(rg),(.map ⟨true,[(.int .i64),(.int .u32),(.int .u32),(.int .i64),(.int .i64)]⟩ (lk) (es) (ck)),(.cells [(.val (.int .i64 20)),(.val (.int .i64 100)),(.val (.int .i64 (if n>now then n else now))),(.map 5),(.ptr 4 0),(.val (.int .i64 (came))),(.val (.int .i64 (went)))]),(o (7:Nat)),(o (8:Nat)),(o (9:Nat)),(o (10:Nat)),(o (11:Nat)),(o (12:Nat)),(o (13:Nat)),(o (14:Nat)),(o (15:Nat))]++(aB x++ [(z),(.cells [(.val (.int .i64 (fst f))),(.val (.int .u32 (fst (snd f)))),(.val (.int .u32 (fst (snd (snd f))))),(.val (.int .i64 (fst (snd (snd (snd f)))))),(.val (.int .i64 (snd (snd (snd (snd f))))))]),(.cells [(.val (.int .i64 0)),(.val (.int .u32 0)),(.val (.int .u32 0)),(.val (.int .i64 0)),(.val (.int .i64 0)),(.val (.int .i64 0)),(.val (.int .i64 0))]),(.cells [(.val (.int .i64 0)),(.val (.int .u32 0)),(.val (.int .u32 0)),(.val (.int .i64 0)),(.val (.int .i64 0)),(.val (.int .i64 0)),(.val (.int .i64 0))])]),[]⟩ false (.lookup 97 (.tmp 23) (.tmp 24) false) [(23,(.map 5)),(24,(cR (fst f) (fst (snd f)) (fst (snd (snd f))) (fst (snd (snd (snd f)))) (snd (snd (snd (snd f))))))] (.val (.pointer .none))∧
 (((@Eq (Nat) 0 0)∧
 ((@Eq (List TV) [ma] [ma])∧
 Pre ⟨[(o (0:Nat)),(o (1:Nat)),(o (2:Nat)),(o (3:Nat)),(rg),(.map ⟨true,[(.int .i64),(.int .u32),(.int .u32),(.int .i64),(.int .i64)]⟩ (lk) (es) (ck)),(.cells [(.val (.int .i64 20)),(.val (.int .i64 100)),(.val (.int .i64 (if n>now then n else now))),(.map 5),(.ptr 4 0),(.val (.int .i64 (came))),(.val (.int .i64 (went)))]),(o (7:Nat)),(o (8:Nat)),(o (9:Nat)),(o (10:Nat)),(o (11:Nat)),(o (12:Nat)),(o (13:Nat)),(o (14:Nat)),(o (15:Nat))]++(aB x++ [(z),(.cells [(.val (.int .i64 (fst f))),(.val (.int .u32 (fst (snd f)))),(.val (.int .u32 (fst (snd (snd f))))),(.val (.int .i64 (fst (snd (snd (snd f)))))),(.val (.int .i64 (snd (snd (snd (snd f))))))]),(.cells [(.val (.int .i64 0)),(.val (.int .u32 0)),(.val (.int .u32 0)),(.val (.int .i64 0)),(.val (.int .i64 0)),(.val (.int .i64 0)),(.val (.int .i64 0))]),(.cells [(.val (.int .i64 0)),(.val (.int .u32 0)),(.val (.int .u32 0)),(.val (.int .i64 0)),(.val (.int .i64 0)),(.val (.int .i64 0)),(.val (.int .i64 0))])]),[]⟩))∧
 (((@Eq (Nat) 0 0)∧
 ((@Eq (List TV) [ma,(.ptr 121 0)] [ma,(.ptr 121 0)])∧
 Pre2 ⟨[(o (0:Nat)),(o (1:Nat)),(o (2:Nat)),(o (3:Nat)),(rg1),(.map ⟨true,[(.int .i64),(.int .u32),(.int .u32),(.int .i64),(.int .i64)]⟩ (λkk=>(bif am
  ((λvs=>Value.agg (toArray vs))
    ((λx=>Value.int i64 (fst f)::x) ((λx=>Value.int u32 (fst (snd f))::x) ((λx=>Value.int u32 (fst (snd (snd f)))::x) ((λx=>Value.int i64 (fst (snd (snd (snd f))))::x) ((λx=>Value.int i64 (snd (snd (snd (snd f))))::x) []))))))
  kk then (.some (.ptr 121 0)) else (lk1 kk))) (bt (.agg #[(.int .i64 (fst f)),(.int .u32 (fst (snd f))),(.int .u32 (fst (snd (snd f)))),(.int .i64 (fst (snd (snd (snd f))))),(.int .i64 (snd (snd (snd (snd f)))))]) (.ptr 121 0) (ck1) (es1)) (match
  lk1
    ((λvs=>Value.agg (toArray vs))
      ((λx=>Value.int i64 (fst f)::x) ((λx=>Value.int u32 (fst (snd f))::x) ((λx=>Value.int u32 (fst (snd (snd f)))::x) ((λx=>Value.int i64 (fst (snd (snd (snd f))))::x) ((λx=>Value.int i64 (snd (snd (snd (snd f))))::x) [])))))) with
|some val=>ck1
|none=>ck1+(1:Nat))),(.cells [(.val (.int .i64 20)),(.val (.int .i64 100)),(.val (.int .i64 (now1))),(.map 5),(.ptr 4 0),(.val (.int .i64 (wrap i64 (came1+(1:Int))))),(.val (.int .i64 (went1)))]),(o (7:Nat)),(o (8:Nat)),(o (9:Nat)),(o (10:Nat)),(o (11:Nat)),(o (12:Nat)),(o (13:Nat)),(o (14:Nat)),(o (15:Nat))]++(aB x1++ [(z),(.cells [(.val (.int .i64 (fst f))),(.val (.int .u32 (fst (snd f)))),(.val (.int .u32 (fst (snd (snd f))))),(.val (.int .i64 (fst (snd (snd (snd f)))))),(.val (.int .i64 (snd (snd (snd (snd f))))))]),(.cells [(.val (.int .i64 0)),(.val (.int .u32 0)),(.val (.int .u32 0)),(.val (.int .i64 0)),(.val (.int .i64 0)),(.val (.int .i64 0)),(.val (.int .i64 0))]),(.cells [(.val (.int .i64 (fst (fst en)))),(.val (.int .u32 (fst (snd (fst en))))),(.val (.int .u32 (fst (snd (snd (fst en)))))),(.val (.int .i64 (fst (snd (snd (snd (fst en))))))),(.val (.int .i64 (snd (snd (snd (snd (fst en))))))),(.val (.int .i64 (fst (snd en)))),(.val (.int .i64 (snd (snd en))))]),(.cells [(.val (.int .i64 (fst f))),(.val (.int .u32 (fst (snd f)))),(.val (.int .u32 (fst (snd (snd f))))),(.val (.int .i64 (fst (snd (snd (snd f)))))),(.val (.int .i64 (snd (snd (snd (snd f)))))),(.val (.int .i64 (b))),(.val (.int .i64 0)),(.val (.pointer .none)),(.val (.pointer .none))])]),[]⟩))∧
 Q (.tup [(xM (fst (fst en)) (fst (snd (fst en))) (fst (snd (snd (fst en)))) (fst (snd (snd (snd (fst en))))) (snd (snd (snd (snd (fst en))))) (fst (snd en)) (snd (snd en))),(fh q)]) ⟨[(o (0:Nat)),(o (1:Nat)),(o (2:Nat)),(o (3:Nat)),(rg3),(.map ⟨true,[(.int .i64),(.int .u32),(.int .u32),(.int .i64),(.int .i64)]⟩ (λkk=>(bif am
  ((λvs=>Value.agg (toArray vs))
    ((λx=>Value.int i64 (fst f)::x) ((λx=>Value.int u32 (fst (snd f))::x) ((λx=>Value.int u32 (fst (snd (snd f)))::x) ((λx=>Value.int i64 (fst (snd (snd (snd f))))::x) ((λx=>Value.int i64 (snd (snd (snd (snd f))))::x) []))))))
  kk then (.some (.ptr 121 0)) else (lk1 kk))) (bt (.agg #[(.int .i64 (fst f)),(.int .u32 (fst (snd f))),(.int .u32 (fst (snd (snd f)))),(.int .i64 (fst (snd (snd (snd f))))),(.int .i64 (snd (snd (snd (snd f)))))]) (.ptr 121 0) (ck1) (es1)) (match
  lk1
    ((λvs=>Value.agg (toArray vs))
      ((λx=>Value.int i64 (fst f)::x) ((λx=>Value.int u32 (fst (snd f))::x) ((λx=>Value.int u32 (fst (snd (snd f)))::x) ((λx=>Value.int i64 (fst (snd (snd (snd f))))::x) ((λx=>Value.int i64 (snd (snd (snd (snd f))))::x) [])))))) with
|some val=>ck1
|none=>ck1+(1:Nat))),(.cells [(.val (.int .i64 20)),(.val (.int .i64 100)),(.val (.int .i64 (now1))),(.map 5),(.ptr 4 0),(.val (.int .i64 (wrap i64 (came1+(1:Int))))),(.val (.int .i64 (went1)))]),(o (7:Nat)),(o (8:Nat)),(o (9:Nat)),(o (10:Nat)),(o (11:Nat)),(o (12:Nat)),(o (13:Nat)),(o (14:Nat)),(o (15:Nat))]++(aB x3++ [(z),(.cells [(.val (.int .i64 (fst f))),(.val (.int .u32 (fst (snd f)))),(.val (.int .u32 (fst (snd (snd f))))),(.val (.int .i64 (fst (snd (snd (snd f)))))),(.val (.int .i64 (snd (snd (snd (snd f))))))]),(.cells [(.val (.int .i64 (fst (fst en)))),(.val (.int .u32 (fst (snd (fst en))))),(.val (.int .u32 (fst (snd (snd (fst en)))))),(.val (.int .i64 (fst (snd (snd (snd (fst en))))))),(.val (.int .i64 (snd (snd (snd (snd (fst en))))))),(.val (.int .i64 (fst (snd en)))),(.val (.int .i64 (snd (snd en))))]),(.cells [(.val (.int .i64 (fst (fst en)))),(.val (.int .u32 (fst (snd (fst en))))),(.val (.int .u32 (fst (snd (snd (fst en)))))),(.val (.int .i64 (fst (snd (snd (snd (fst en))))))),(.val (.int .i64 (snd (snd (snd (snd (fst en))))))),(.val (.int .i64 (fst (snd en)))),(.val (.int .i64 (snd (snd en))))]),(lk3)]),[]⟩))):=by kernel_rfl
section
variable {P:Program}{G:aD}
def Gh.pickG (g:Gh)(is ks:List Nat):Gh:={g with obj:=λj=>(is[j]?).bind g.obj,tail:=λj=>(ks[j]?).bind g.tail}
theorem pH (g:Gh)(is ks:List Nat):jC g (g.pickG is ks) (aj is) (aj ks) where
 obj i i' b h1 h2:=by simp [Gh.pickG,gZ h1,h2]
 tail k k' x h1 h2:=by simp [Gh.pickG,gZ h1,h2]
 st _ _ h:=h
theorem RW.pickG {g:Gh}{T:VT}{w:World}(r:RW g T w){is ks:List Nat}(hi:is.Nodup)(hk:ks.Nodup)(hkl:∀k∈ks,k<T.tails.length):
  RW (g.pickG is ks) (T.give is ks) w:=by
 have k:=pH g is ks
 have hobj:∀(j:Nat) o,(T.give is ks).objs[j]?=some o→o.live=true→∃i o0,is[j]?=some i∧T.objs[i]?=some o0∧o0.live=true∧o=o0.ren (aj is) (aj ks):=by
  intro j o h hl
  simp only [VT.give,getElem?_map,Option.map_eq_some_iff] at h
  obtain ⟨i,h1,rfl⟩:=h
  rw [VO.ren_live] at hl
  cases h2:T.objs[i]? with
  |none=>rw [h2] at hl;cases hl
  |some o0=>rw [h2] at hl;exact ⟨i,o0,h1,h2,hl,by simp⟩
 have hsub:∀(j:Nat) x,(g.pickG is ks).tail j=some x→∃k0,ks[j]?=some k0∧g.tail k0=some x:=λj x h=>by simpa [Gh.pickG,Option.bind_eq_some_iff] using h
 refine ⟨?_,?_,?_,r.st,r.fr,?_,?_,?_,?_,?_,?_,?_⟩
 ·intro j o h hl
  obtain ⟨i,o0,h1,h2,h3,rfl⟩:=hobj j o h hl
  obtain ⟨b,h4,h5,h6,h7⟩:=r.obj i o0 h2 h3
  exact ⟨b,by simp [Gh.pickG,h1,h4],h5.ren k,h6,h7⟩
 ·intro i j oi oj b h1 l1 h2 l2 b1 b2
  obtain ⟨i0,o1,a1,a2,a3,rfl⟩:=hobj i oi h1 l1
  obtain ⟨j0,o2,c1,c2,c3,rfl⟩:=hobj j oj h2 l2
  simp only [Gh.pickG,a1,c1,Option.bind_some] at b1 b2
  have:=r.inj i0 j0 o1 o2 b a2 a3 c2 c3 b1 b2
  subst this
  exact i9 hi a1 c1
 ·intro id hid
  simp only [VT.give,length_map] at hid
  simp [Gh.pickG,getElem?_eq_none hid]
 ·intro j p h
  simp only [VT.give,getElem?_map,Option.map_eq_some_iff] at h
  obtain ⟨k0,h1,rfl⟩:=h
  have hlt:=hkl k0 (List.mem_of_getElem? h1)
  obtain ⟨x,h2,h3,h4,h5⟩:=r.tl k0 _ (getElem?_eq_getElem hlt)
  refine ⟨x,by simp [Gh.pickG,h1,h2],?_,?_,h5⟩
  ·rw [getElem?_eq_getElem hlt];exact h3
  ·rw [getElem?_eq_getElem hlt];exact h4
 ·intro j hj
  simp only [VT.give,length_map] at hj
  simp [Gh.pickG,getElem?_eq_none hj]
 ·intro i j x y b h1 h2 i1 i2
  obtain ⟨i0,a1,a2⟩:=hsub i x h1
  obtain ⟨j0,c1,c2⟩:=hsub j y h2
  have:=r.tinj i0 j0 x y b a2 c2 i1 i2
  subst this
  exact i9 hk a1 c1
 ·intro i oi b j x h1 l1 b1 hx hin
  obtain ⟨i0,o1,a1,a2,a3,rfl⟩:=hobj i oi h1 l1
  obtain ⟨j0,c1,c2⟩:=hsub j x hx
  simp only [Gh.pickG,a1,Option.bind_some] at b1
  exact r.tobj i0 o1 b j0 x a2 a3 b1 c2 hin
 ·intro j x hx
  obtain ⟨j0,c1,c2⟩:=hsub j x hx
  exact r.own j0 x c2
 ·intro j x hx
  obtain ⟨j0,c1,c2⟩:=hsub j x hx
  exact r.own0 j0 x c2
 ·intro j x hx
  obtain ⟨j0,c1,c2⟩:=hsub j x hx
  exact r.tlo j0 x c2
theorem Evo.pickG {g0 g:Gh}{T0:VT}{w0 w:World}(r0:RW g0 T0 w0)(e:Evo g0 w0 g w){is ks:List Nat}(hp:∀j,j<T0.objs.length→is[j]?=some j)(hq:∀j,j<T0.tails.length→ks[j]?=some j)(hk:ks.Nodup):Evo g0 w0 (g.pickG is ks) w:=by
 refine ⟨e.os,e.tape,e.output,e.size,λid b hb=> ?_,e.st,e.fr,e.frb,e.frs,λk x hx=> ?_,λk x h1 h2=> ?_,e.csz⟩
 ·simp only [Gh.pickG,hp id (wS r0 hb),Option.bind_some];exact e.obj id b hb
 ·simp only [Gh.pickG,hq k (kw r0 hx),Option.bind_some];exact e.tail k x hx
 ·simp only [Gh.pickG,Option.bind_eq_some_iff] at h2
  obtain ⟨k0,h3,h4⟩:=h2
  refine e.tnew k0 x ?_ h4
  by_cases hlt:k0<T0.tails.length
  ·have:=i9 hk h3 (hq k0 hlt)
   subst this;exact h1
  ·exact r0.tout k0 (by omega)
end
section
variable {g:Gh}{w:World}
end
section
variable {P:Program}{G:aD}
end
section
variable {P:Program}{G:aD}
theorem VCx.pick {f:FuncId}{xs:List TV}{T:VT}{Q:TV→VT→Prop}(h:VCx P G 0 f xs T λx T'=>∃is ks:List Nat,(is.Nodup∧ks.Nodup∧(∀i∈is,i<T'.objs.length)∧(∀k∈ks,k<T'.tails.length)∧(∀j,j<T.objs.length→is[j]?=some j)∧(∀j,j<T.tails.length→ks[j]?=some j))∧Q (x.ren (aj is) (aj ks)) (T'.give is ks)):VCx P G 0 f xs T Q:=by
 intro g w us rw0 hG hx
 refine Calls.mono (h g w us rw0 hG hx) ?_
 rintro e w' ⟨v,x,g',T',he,⟨is,ks,⟨b1,b2,b3,b4,hp,hq0⟩,hq⟩,e',r',hv,hfx⟩
 refine ⟨v,_,g'.pickG is ks,T'.give is ks,he,hq,Evo.pickG rw0 e' hp hq0 b2,r'.pickG b1 b2 b4,hv.ren (pH g' is ks),?_,λi hi=>absurd hi (not_lt_zero i),λi o b hi=>absurd hi (not_lt_zero i)⟩
 simp only [VT.give,length_map]
 rcases Nat.eq_zero_or_pos T.objs.length with h0 | h0
 ·omega
 ·have:=(List.getElem?_eq_some_iff.1 (hp (T.objs.length-1) (by omega))).1
  omega
end
section
variable {P:Program}{G:aD}{g:Gh}{T:VT}{w:World}
def VT.pad (T:VT)(k:Nat):VT:=⟨T.objs++List.replicate k .gone,T.tails⟩
theorem tC {k i:Nat}{o:VO}(h:(T.pad k).objs[i]?=some o)(hl:o.live=true):T.objs[i]?=some o:=by
 simp only [VT.pad] at h
 rcases lt_or_ge i T.objs.length with hi | hi
 ·rw [getElem?_append_left hi] at h;exact h
 ·rw [getElem?_append_right hi,List.getElem?_replicate] at h
  split at h
  ·injection h with h;subst h;cases hl
  ·cases h
theorem RW.pad (r:RW g T w)(k:Nat):RW g (T.pad k) w:={
 obj:=λid o h hl=>r.obj id o (tC h hl) hl
 inj:=λi j oi oj b hi li hj lj=>r.inj i j oi oj b (tC hi li) li (tC hj lj) lj
 out:=λid h=>r.out id (by simp only [VT.pad,length_append,length_replicate] at h;omega)
 st:=r.st
 fr:=r.fr
 tl:=r.tl
 tout:=r.tout
 tinj:=r.tinj
 tobj:=λi oi b k x hi li=>r.tobj i oi b k x (tC hi li) li
 own:=r.own
 own0:=r.own0
 tlo:=r.tlo}
theorem VCx.pad {f:FuncId}{xs:List TV}{Q:TV→VT→Prop}(k:Nat)(h:VCx P G 0 f xs (T.pad k) Q):VCx P G 0 f xs T Q:=by
 intro g w us r hG hx
 refine Calls.mono (h g w us (r.pad k) hG hx) ?_
 rintro e w' ⟨v,x,g',T',he,hq,e',r2,hv,hfx⟩
 refine ⟨v,x,g',T',he,hq,e',r2,hv,⟨?_,λi hi=>absurd hi (not_lt_zero i),λi o b hi=>absurd hi (not_lt_zero i)⟩⟩
 have:=hfx.len
 simp only [VT.pad,length_append,length_replicate] at this;omega
theorem VWx.pad {c:Code}{σ:List TV}{D:List Nat}{Q:KX}(k:Nat)(h:VWx P G none 0 c σ (T.pad k) D Q):VWx P G none 0 c σ T D Q:=by
 intro r g w a rw0 hG hσ hd hD hr
 refine wpIn_mono (h r g w a (rw0.pad k) hG hσ hd hD hr) ?_
 rintro e a' w' ⟨g',σ',T',D',hq,e',r2,hσ',hd',hD',hfx⟩
 refine ⟨g',σ',T',D',hq,e',r2,hσ',hd',hD',⟨?_,λi hi=>absurd hi (not_lt_zero i),λi o b hi=>absurd hi (not_lt_zero i)⟩⟩
 have:=hfx.len
 simp only [VT.pad,length_append,length_replicate] at this;omega
def tD (T T':VT)(is ks:List Nat):Prop:=is.Nodup∧ks.Nodup∧(∀i∈is,i<T'.objs.length)∧(∀k∈ks,k<T'.tails.length)∧(∀j,j<T.objs.length→is[j]?=some j)∧(∀j,j<T.tails.length→ks[j]?=some j)
theorem VWx.pickT {c:Code}{σ:List TV}{Q:KX}(h:VWx P G none 0 c σ T [] λe σ' T' D'=>D'= []∧∃is ks:List Nat,tD T T' is ks∧Q e (av (aj is) (aj ks) σ') (T'.give is ks) []):VWx P G none 0 c σ T [] Q:=by
 intro r g w a rw0 hG hσ hd hD hr
 refine wpIn_mono (h r g w a rw0 hG hσ hd hD hr) ?_
 rintro e a' w' ⟨g',σ',T',D',⟨rfl,is,ks,⟨b1,b2,b3,b4,hp,hq0⟩,hq⟩,e',r2,hσ',hd',hD',hfx⟩
 refine ⟨g'.pickG is ks,_,T'.give is ks,[],hq,Evo.pickG rw0 e' hp hq0 b2,r2.pickG b1 b2 b4,hσ'.ren (pH g' is ks),by simpa using hd',by simp,?_,λi hi=>absurd hi (not_lt_zero i),λi o b hi=>absurd hi (not_lt_zero i)⟩
 simp only [VT.give,length_map]
 rcases Nat.eq_zero_or_pos T.objs.length with h0 | h0
 ·omega
 ·have:=(List.getElem?_eq_some_iff.1 (hp (T.objs.length-1) (by omega))).1
  omega
theorem VCx.padQ {f:FuncId}{xs:List TV}{Q:TV→VT→Prop}(h:VCx P G 0 f xs T λx T'=>∃k,Q x (T'.pad k)):VCx P G 0 f xs T Q:=by
 intro g w us r hG hx
 refine Calls.mono (h g w us r hG hx) ?_
 rintro e w' ⟨v,x,g',T',he,⟨k,hq⟩,e',r2,hv,hfx⟩
 refine ⟨v,x,g',T'.pad k,he,hq,e',r2.pad k,hv,⟨?_,λi hi=>absurd hi (not_lt_zero i),λi o b hi=>absurd hi (not_lt_zero i)⟩⟩
 have:=hfx.len
 simp only [VT.pad,length_append,length_replicate];omega
theorem VWx.padQ {c:Code}{σ:List TV}{D:List Nat}{Q:KX}(h:VWx P G none 0 c σ T D λe σ' T' D'=>∃k,Q e σ' (T'.pad k) D'):VWx P G none 0 c σ T D Q:=by
 intro r g w a rw0 hG hσ hd hD hr
 refine wpIn_mono (h r g w a rw0 hG hσ hd hD hr) ?_
 rintro e a' w' ⟨g',σ',T',D',⟨k,hq⟩,e',r2,hσ',hd',hD',hfx⟩
 refine ⟨g',σ',T'.pad k,D',hq,e',r2.pad k,hσ',hd',hD',⟨?_,λi hi=>absurd hi (not_lt_zero i),λi o b hi=>absurd hi (not_lt_zero i)⟩⟩
 have:=hfx.len
 simp only [VT.pad,length_append,length_replicate];omega
theorem iK {m i:Nat}(h:i<m)(l:List Nat):aj (List.range m++l) i=some i:=by
 unfold aj
 rw [List.idxOf?_eq_some_iff]
 refine ⟨by simp;omega,?_,λj hj=> ?_⟩
 ·rw [List.getElem_append_left (by simpa using h)];simp
 ·have hj':j<i:=hj
  rw [List.getElem_append_left (by simp;omega)]
  simp;omega
theorem Dw {m e:Nat}(h:m≤e):aj (List.range m++ [e]) e=some m:=by
 unfold aj
 rw [List.idxOf?_eq_some_iff]
 refine ⟨by simp,?_,λj hj=> ?_⟩
 ·rw [List.getElem_append_right (by simp)];simp
 ·have hj':j<m:=hj
  rw [List.getElem_append_left (by simpa using hj')]
  simp;omega
theorem mm {α β:Type}(F:α→β)(d:α):∀(k:Nat) (L:List α),k≤L.length→(List.range k).map (λi=>F (L[i]?.getD d))=(L.take k).map F:=by
 intro k L hk
 apply ext_getElem?
 intro j
 rw [getElem?_map,getElem?_map,List.getElem?_take]
 by_cases hj:j<k
 ·rw [List.getElem?_range hj,if_pos hj]
  have:L[j]?=some L[j]:=getElem?_eq_getElem (by omega)
  simp only [map_some,this,getD_some]
 ·rw [if_neg hj,getElem?_eq_none (by simpa using hj)];rfl
theorem Dx {keys:List Nat}{Q:Exit→List TV→VT→List Nat→Nat→Prop}(f h:Nat→Option Nat)(e:Exit)(σ:List TV)(T:VT):dm keys Q e (av f h σ) T [] ↔ Q e (av f h (pick keys σ)) T [] σ.length:=by
 have e1:pick keys (av f h σ)=av f h (pick keys σ):=by
  unfold pick
  rw [c7,c7,map_map]
  refine List.map_congr_left λk _=> ?_
  simp only [comp,List.getD_eq_getElem?_getD,getElem?_map]
  cases σ[k]?<;>rfl
 have e2:(av f h σ).length=σ.length:=by rw [c7,length_map]
 unfold dm
 rw [e1,e2]
end
set_option maxRecDepth 100000
section
open Go.RowKit Go.Maps Go.Sort
def de (e:En)(u v:TV):VO:=.cells (aO e++ [u,v])
def cK (e:En)(a c:Nat):VO:=de e (.ptr a 0) (.ptr c 0)
def lx (T:VT)(p:Nat)(e:En)(a c:Nat):Prop:=T.objs[p]?=some (cK e a c)
def fe (V:Nat→Prop)(T:VT):Prop:=∀p,V p→∃e a c,lx T p e a c∧V a∧V c
def cD (T:VT)(p:Nat)(o:VO):VT:={T with objs:=T.objs.set p o}
structure Kp (V:Nat→Prop) (T T':VT):Prop where
 len:T'.objs.length=T.objs.length
 tails:T'.tails=T.tails
 off:∀i,¬V i→T'.objs[i]?=T.objs[i]?
 kept:∀q e u v,V q→T.objs[q]?=some (de e u v)→∃e' u' v',T'.objs[q]?=some (de e' u' v')∧e'.1=e.1∧e'.2.1=e.2.1
theorem Kp.refl (V:Nat→Prop)(T:VT):Kp V T T:=⟨rfl,rfl,λ_ _=>rfl,λq e u v _ h=>⟨e,u,v,h,rfl,rfl⟩⟩
theorem Kp.trans {V:Nat→Prop}{T T1 T2:VT}(h:Kp V T T1)(k:Kp V T1 T2):Kp V T T2:=
 ⟨k.len.trans h.len,k.tails.trans h.tails,λi hi=>(k.off i hi).trans (h.off i hi),λq e u v hq hl=>by
  obtain ⟨e1,u1,v1,h1,h2,h3⟩:=h.kept q e u v hq hl
  obtain ⟨e2,u2,v2,k1,k2,k3⟩:=k.kept q e1 u1 v1 hq h1
  exact ⟨e2,u2,v2,k1,k2.trans h2,k3.trans h3⟩⟩
theorem ng {e e':En}{u v u' v':TV}(h:de e u v=de e' u' v'):e=e'∧u=u'∧v=v':=by
 obtain ⟨⟨a1,a2,a3,a4,a5⟩,a6,a7⟩:=e
 obtain ⟨⟨b1,b2,b3,b4,b5⟩,b6,b7⟩:=e'
 simp only [de,aO,i5,au,bQ,List.cons_append,List.nil_append,VO.cells.injEq,List.cons.injEq,TV.val.injEq,Value.int.injEq,true_and,and_true] at h
 obtain ⟨rfl,rfl,rfl,rfl,rfl,rfl,rfl,rfl,rfl⟩:=h
 exact ⟨rfl,rfl,rfl⟩
theorem jT {T:VT}{p q:Nat}{o:VO}(hp:p<T.objs.length):(cD T p o).objs[q]?=if p=q then some o else T.objs[q]?:=by
 simp only [cD,getElem?_set]
 split
 ·first | rfl | rw [if_pos hp]
 ·rfl
theorem mn {T:VT}{p:Nat}{o:VO}(h:T.objs[p]?=some o):p<T.objs.length:=(List.getElem?_eq_some_iff.1 h).1
theorem tE {V:Nat→Prop}{T:VT}{p:Nat}{e e':En}{u v u' v':TV}(hp:V p)(h:T.objs[p]?=some (de e u v))(h1:e'.1=e.1)(h2:e'.2.1=e.2.1):Kp V T (cD T p (de e' u' v')) where
 len:=by simp [cD]
 tails:=rfl
 off:=λi hi=>by rw [jT (mn h),if_neg λ(k:p=i)=>hi (k▸hp)]
 kept:=λq e0 u0 v0 hq hl=>by
  rw [jT (mn h)]
  split
  ·rename_i hpq;subst hpq
   rw [h] at hl;injection hl with hl
   obtain ⟨rfl,_,_⟩:=ng hl
   exact ⟨e',u',v',rfl,h1,h2⟩
  ·exact ⟨e0,u0,v0,hl,rfl,rfl⟩
theorem ly {V:Nat→Prop}{T:VT}{p:Nat}{e:En}{a c:Nat}(h:fe V T)(hp:p<T.objs.length)(ha:V a)(hc:V c):fe V (cD T p (cK e a c)):=λq hq=>by
 obtain ⟨e1,a1,c1,h1,h2,h3⟩:=h q hq
 unfold lx at h1 ⊢
 by_cases hpq:p=q
 ·exact ⟨e,a,c,by rw [jT hp,if_pos hpq],ha,hc⟩
 ·exact ⟨e1,a1,c1,by rw [jT hp,if_neg hpq];exact h1,h2,h3⟩
theorem Dy {T:VT}{t:TypeId}{d:TypeDesc}{a:Operand}{l:List (Nat × TV)}{inf:TypeInfo}{id off:Nat}{cs:List TV}{y:TV}(ht:prog.underlying t=some d)(hd:ge d=false)(hi:prog.info? t=some inf)
  (ha:aq ae l a=.ptr id off) (ho:T.objs[id]?=some (.cells cs)) (hy:cs[off]?=some y):cm prog ae T false (.load t a) l y:=by
 refine .mk ?_
 have hlt:=(List.getElem?_eq_some_iff.1 hy).1
 have hc:bJ T (.ptr id off) 1=some [y]:=by
  simp only [bJ,ho]
  rw [if_pos (by omega)]
  congr 1
  rw [List.take_one,List.head?_drop,hy];rfl
 simp [iS,aR,cN,aK,cM,eV,ht,hi,hd,ha,hc]
theorem yE:∃inf:TypeInfo,prog.info? 96=some inf∧inf.size=1:=
 ⟨(prog.info? 96).getD default,by kernel_rfl,by kernel_rfl⟩
theorem yF:∃inf:TypeInfo,prog.info? 3=some inf∧inf.size=1:=
 ⟨(prog.info? 3).getD default,by kernel_rfl,by kernel_rfl⟩
theorem fF {T:VT}{a:Operand}{l:List (Nat × TV)}{id off:Nat}{cs:List TV}{y:TV}(ha:aq ae l a=.ptr id off)(ho:T.objs[id]?=some (.cells cs))(hy:cs[off]?=some y):cm prog ae T false (.load 96 a) l y:=by
 obtain ⟨inf,i1,_⟩:=yE
 exact Dy Tryz.underlying96 rfl i1 ha ho hy
theorem yG {T:VT}{a x:Operand}{l:List (Nat × TV)}{id off q:Nat}{cs:List TV}(ha:aq ae l a=.ptr id off)(hx:aq ae l x=.ptr q 0)(ho:T.objs[id]?=some (.cells cs))(hle:off+1≤cs.length):aM prog ae 0 T (.store 96 a x) l (.val undef) (cD T id (.cells (cs.set off (.ptr q 0)))):=by
 obtain ⟨inf,i1,i2⟩:=yE
 have h:=lu (P:=prog) (G:=ae) (ro:=0) (T:=T) (t:=96) (a:=a) (x:=x) (l:=l) (new:= [.ptr q 0]) i1 ha (by rw [hx];rfl) ho (by rw [i2];rfl) hle rfl (zero_le _)
 rw [pD _ _ _ (by omega)] at h
 exact h
theorem BS {T:VT}{x y:Operand}{l:List (Nat × TV)}{a q:Nat}{e:En}{u v:TV}(ha:aq ae l x=.ptr a 8)(hx:aq ae l y=.ptr q 0)(h:T.objs[a]?=some (de e u v)):aM prog ae 0 T (.store 96 x y) l (.val undef) (cD T a (de e u (.ptr q 0))):=
 yG (cs:=aO e++ [u,v]) ha hx h (by show 9≤9;decide)
theorem BT {T:VT}{x y:Operand}{l:List (Nat × TV)}{a q:Nat}{e:En}{u v:TV}(ha:aq ae l x=.ptr a 7)(hx:aq ae l y=.ptr q 0)(h:T.objs[a]?=some (de e u v)):aM prog ae 0 T (.store 96 x y) l (.val undef) (cD T a (de e (.ptr q 0) v)):=
 yG (cs:=aO e++ [u,v]) ha hx h (by show 8≤9;decide)
theorem uM {V:Nat→Prop}{T:VT}{p:Nat}(h:fe V T)(hp:V p):∃T2,fe V T2∧Kp V T T2∧VCx prog ae 0 vW [.ptr p 0] T λx T'=>x=.tup []∧T'=T2:=by
 obtain ⟨e,a,c,h1,ha,hc⟩:=h p hp
 obtain ⟨ea,aa,ca,h2,haa,hca⟩:=h a ha
 have r1:fe V (cD T a (cK ea aa c)):=ly h (mn h2) haa hc
 have k1:Kp V T (cD T a (cK ea aa c)):=tE ha h2 rfl rfl
 obtain ⟨ec,ac,cc,h3,hac,hcc⟩:=r1 c hc
 have r2:=ly (e:=ec) (a:=a) (c:=cc) r1 (mn h3) ha hcc
 have k2:Kp V (cD T a (cK ea aa c)) (cD (cD T a (cK ea aa c)) c (cK ec a cc)):=tE hc h3 rfl rfl
 refine ⟨_,r2,k1.trans k2,ap ah ag aw ak (K1 T (cD T a (cK ea aa c)) (cD (cD T a (cK ea aa c)) c (cK ec a cc)) p a c _) ?_⟩
 exact ⟨fF rfl h1 rfl,fF rfl h1 rfl,fF rfl h1 rfl,fF rfl h1 rfl,BS rfl rfl h2,BT rfl rfl h3,rfl,rfl⟩
theorem rY {V:Nat→Prop}{T:VT}{p:Nat}{now came went:Int}{e:En}{u v:TV}(h:fe V T)(ht:T.objs[6]?=some (ml now came went))(h4:V 4)(h6:¬V 6)(hp6:p≠6)(hp4:p≠4)(hp:T.objs[p]?=some (de e u v))(hu:dD u=true)(hv:dD v=true):
  ∃T2,fe (λq=>V q∨q=p) T2∧Kp (λq=>V q∨q=p) T T2∧VCx prog ae 0 vX [.ptr 6 0,.ptr p 0] T λx T'=>x=.tup []∧T'=T2:=by
 let e':En:=(e.1,e.2.1,now)
 obtain ⟨er,a,cr,q1,ha,hcr⟩:=h 4 h4
 have hlt:=mn hp
 let T1:=cD T p (de e' u v)
 let T2:=cD T1 p (de e' (.ptr a 0) v)
 let T3:=cD T2 p (cK e' a 4)
 have l1:p<T1.objs.length:=by simp [T1,cD];exact hlt
 have l2:p<T2.objs.length:=by simp [T2,T1,cD];exact hlt
 have a1:∀q,T1.objs[q]?=if p=q then some (de e' u v) else T.objs[q]?:=λq=>jT hlt
 have a2:∀q,T2.objs[q]?=if p=q then some (de e' (.ptr a 0) v) else T.objs[q]?:=λq=>by
  rw [show T2.objs[q]?=_ from jT l1]
  split
  ·rfl
  ·rename_i hn;rw [a1,if_neg hn]
 have a3:∀q,T3.objs[q]?=if p=q then some (cK e' a 4) else T.objs[q]?:=λq=>by
  rw [show T3.objs[q]?=_ from jT l2]
  split
  ·rfl
  ·rename_i hn;rw [a2,if_neg hn]
 have r3:fe (λq=>V q∨q=p) T3:=λq hq=>by
  by_cases hpq:p=q
  ·exact ⟨e',a,4,by unfold lx;rw [a3,if_pos hpq],.inl ha,.inl h4⟩
  ·rcases hq with hq | hq
   ·obtain ⟨e1,b1,c1,g1,g2,g3⟩:=h q hq
    exact ⟨e1,b1,c1,by unfold lx;rw [a3,if_neg hpq];exact g1,.inl g2,.inl g3⟩
   ·exact absurd hq.symm hpq
 have k3:Kp (λq=>V q∨q=p) T T3:={
  len:=by simp [T3,T2,T1,cD]
  tails:=rfl
  off:=λi hi=>by rw [a3,if_neg λk=>hi (.inr k.symm)]
  kept:=λq e0 u0 v0 hq hl=>by
   rw [a3]
   split
   ·rename_i hpq;subst hpq
    rw [hp] at hl;injection hl with hl
    obtain ⟨rfl,_,_⟩:=ng hl
    exact ⟨_,_,_,rfl,rfl,rfl⟩
   ·exact ⟨e0,u0,v0,hl,rfl,rfl⟩}
 obtain ⟨ea,aa,ca,g1,g2,g3⟩:=r3 a (.inl ha)
 have r4:=ly (e:=ea) (a:=aa) (c:=p) r3 (mn g1) g2 (.inr rfl)
 have k4:Kp (λq=>V q∨q=p) T3 (cD T3 a (cK ea aa p)):=tE (.inl ha) g1 rfl rfl
 obtain ⟨e4,a4,c4,i1,i2,i3⟩:=r4 4 (.inl h4)
 have r5:=ly (e:=e4) (a:=p) (c:=c4) r4 (mn i1) (.inr rfl) i3
 have k5:Kp (λq=>V q∨q=p) (cD T3 a (cK ea aa p)) (cD (cD T3 a (cK ea aa p)) 4 (cK e4 p c4)):=tE (.inl h4) i1 rfl rfl
 have t1:T1.objs[6]?=some (ml now came went):=by rw [a1,if_neg hp6];exact ht
 have t3:T3.objs[6]?=some (ml now came went):=by rw [a3,if_neg hp6];exact ht
 have q1':T1.objs[4]?=some (cK er a cr):=by rw [a1,if_neg hp4];exact q1
 have hp1:T1.objs[p]?=some (de e' u v):=by rw [a1,if_pos rfl]
 have hp2:T2.objs[p]?=some (de e' (.ptr a 0) v):=by rw [a2,if_pos rfl]
 have hp3:T3.objs[p]?=some (cK e' a 4):=by rw [a3,if_pos rfl]
 refine ⟨_,r5,(k3.trans k4).trans k5,ap ah ag aw ak (K2 T T1 T2 T3 (cD T3 a (cK ea aa p)) (cD (cD T3 a (cK ea aa p)) 4 (cK e4 p c4)) p 4 a now _) ?_⟩
 obtain ⟨inf,i1',i2'⟩:=yF
 have s1:aM prog ae 0 T (.store 3 (.tmp 11) (.tmp 8)) [(11,.ptr p 6),(8,.val (.int .i64 now))] (.val undef) T1:=by
  have h:=lu (P:=prog) (G:=ae) (ro:=0) (T:=T) (t:=3) (a:=.tmp 11) (x:=.tmp 8) (l:= [(11,.ptr p 6),(8,.val (.int .i64 now))]) (id:=p) (off:=6) (cs:=aO e++ [u,v]) (new:= [.val (.int .i64 now)]) i1' rfl rfl hp (by rw [i2'];rfl) (by show 7≤9;decide) rfl (zero_le _)
  rw [pD _ _ _ (by show 6<9;decide)] at h
  exact h
 refine ⟨mG (inf:=inf) Tryz.underlying3 rfl i1' rfl ht rfl,s1,fF rfl t1 rfl,fF rfl q1' rfl,fF rfl t1 rfl,BT rfl rfl hp1,BS rfl rfl hp2,fF rfl hp3 rfl,fF rfl t3 rfl,BS rfl rfl g1,BT rfl rfl i1,rfl,rfl⟩
end
set_option maxRecDepth 100000
section
open Go.RowKit Go.Maps Go.Sort
def da (f:Fl):Value:=.agg #[.int .i64 f.1,.int .u32 f.2.1,.int .u32 f.2.2.1,.int .i64 f.2.2.2.1,.int .i64 f.2.2.2.2]
theorem cE (x:Nat→VO):(aB x).length=101:=by simp [aB]
theorem nh (x:Nat→VO)(i:Nat)(h:i<101):(aB x)[i]?=some (x i):=by
 simp only [aB,getElem?_map]
 rw [List.getElem?_range h];rfl
section
variable {o:Nat→VO}{rg:VO}{lk:Value→Option TV}{es:Es}{ck:Nat}{now came went:Int}{x:Nat→VO}{y:List VO}
theorem bB:(cj o rg lk es ck now came went).length=16:=rfl
theorem fW {i:Nat}(h:i<16):(fy o rg lk es ck now came went x y).objs[i]?=(cj o rg lk es ck now came went)[i]?:=by
 simp only [fy];rw [getElem?_append_left (by rw [bB];exact h)]
theorem gC {i:Nat}(h:i<101):(fy o rg lk es ck now came went x y).objs[16+i]?=some (x i):=by
 simp only [fy]
 rw [getElem?_append_right (by rw [bB];omega),bB,show 16+i-16=i by omega,getElem?_append_left (by rw [cE];exact h),nh x i h]
theorem fX {i:Nat}:(fy o rg lk es ck now came went x y).objs[117+i]?=y[i]?:=by
 simp only [fy]
 rw [getElem?_append_right (by rw [bB];omega),bB,getElem?_append_right (by rw [cE];omega),cE,show 117+i-16-101=i by omega]
theorem ed:(fy o rg lk es ck now came went x y).objs.length=117+y.length:=by
 simp only [fy,length_append,bB,cE];omega
theorem qB:(cj o rg lk es ck now came went++(aB x++y)).drop 117=y:=by
 rw [←append_assoc]
 exact List.drop_left' (by rw [length_append,bB,cE])
theorem pI (rg':VO)(x':Nat→VO):Ga (fy o rg lk es ck now came went x y) rg' x'=fy o rg' lk es ck now came went x' y:=by
 simp only [Ga,fy]
 rw [take_left' bB,qB]
 rfl
theorem Jq (rg':VO)(lk':Value→Option TV)(es':Es)(ck':Nat)(x':Nat→VO):Gc (fy o rg lk es ck now came went x y) rg' (.map kF lk' es' ck') x'=fy o rg' lk' es' ck' now came went x' y:=by
 simp only [Gc,fy]
 rw [take_left' bB,qB]
 rfl
theorem Dz (rg':VO)(lk':Value→Option TV)(es':Es)(ck':Nat)(now' came' went':Int)(x':Nat→VO):Ge (fy o rg lk es ck now came went x y) rg' (.map kF lk' es' ck') (ml now' came' went') x'=fy o rg' lk' es' ck' now' came' went' x' y:=by
 simp only [Ge,fy]
 rw [take_left' bB,qB]
 rfl
theorem Jr (e:Nat)(rg':VO)(x':Nat→VO)(l:VO):Jn (fy o rg lk es ck now came went x y) e rg' x' l=fy o rg' lk es ck now came went x' (y.set (e-117) l):=by
 simp only [Jn,fy]
 rw [take_left' bB,qB]
 rfl
def bU (n p:Nat):Prop:=p=4∨(16≤p∧p<16+n)
theorem lz {V:Nat→Prop}{T T':VT}(h:fe V T)(he:∀q,V q→T'.objs[q]?=T.objs[q]?):fe V T':=λq hq=>by
 obtain ⟨e,a,c,h1,h2⟩:=h q hq
 exact ⟨e,a,c,(he q hq).trans h1,h2⟩
structure FlS (n:Nat) (rg:VO) (lk:Value→Option TV) (es:Es) (x:Nat→VO):Prop where
 hn:n≤101
 ring:fe (bU n) (fy (λ_=>.gone) rg (λ_=>none) [] 0 0 0 0 x [])
 none:∀i,n≤i→x i=.gone
 map:∀k v,lk k=some v→∃i,i<n∧v=.ptr (16+i) 0
 ents:∀e∈es,∃i,i<n∧e.2.1=.ptr (16+i) 0
theorem rZ {n q:Nat}{o':Nat→VO}{lk':Value→Option TV}{es':Es}{ck':Nat}{now' came' went':Int}{y':List VO}(hn:n≤101)(hq:bU n q):
  (fy o' rg lk' es' ck' now' came' went' x y').objs[q]?=(fy o rg lk es ck now came went x y).objs[q]?:=by
 rcases hq with rfl | ⟨h1,h2⟩
 ·rw [fW (by decide),fW (by decide)];rfl
 ·obtain ⟨i,rfl⟩:∃i,q=16+i:=⟨q-16,by omega⟩
  rw [gC (by omega),gC (by omega)]
theorem FlS.at {n:Nat}(h:FlS n rg lk es x)(o:Nat→VO)(lk':Value→Option TV)(es':Es)(ck:Nat)(now came went:Int)(y:List VO):fe (bU n) (fy o rg lk' es' ck now came went x y):=
 lz h.ring λq hq=>rZ h.hn hq
theorem Gi {T2:VT}(j:Nat)(hlen:T2.objs.length=117+y.length)(htl:T2.tails= [])(hoff:∀i,i≠4→(i<16∨(117≤i∧i≠117+j))→T2.objs[i]?=(fy o rg lk es ck now came went x y).objs[i]?):
  T2=fy o (T2.objs[4]?.getD .gone) lk es ck now came went (λi=>if i<101 then T2.objs[16+i]?.getD .gone else .gone) (y.set j (T2.objs[117+j]?.getD .gone)):=by
 obtain ⟨os,tl⟩:=T2
 have e1:tl= []:=htl
 subst e1
 simp only [fy]
 congr 1
 apply ext_getElem?
 intro i
 simp only at hlen
 rcases lt_or_ge i 16 with h1 | h1
 ·rw [getElem?_append_left (by rw [bB];exact h1)]
  by_cases h4:i=4
  ·subst h4
   have:os[4]?=some os[4]:=getElem?_eq_getElem (by omega)
   rw [this];rfl
  ·have:=hoff i h4 (.inl h1)
   rw [fW h1] at this
   rw [show os[i]?=_ from this]
   match i,h1,h4 with
   | 0,_,_=>rfl
   | 1,_,_=>rfl
   | 2,_,_=>rfl
   | 3,_,_=>rfl
   | 5,_,_=>rfl
   | 6,_,_=>rfl
   | 7,_,_=>rfl
   | 8,_,_=>rfl
   | 9,_,_=>rfl
   | 10,_,_=>rfl
   | 11,_,_=>rfl
   | 12,_,_=>rfl
   | 13,_,_=>rfl
   | 14,_,_=>rfl
   | 15,_,_=>rfl
   |k+16,h1,_=>omega
 ·obtain ⟨m,rfl⟩:∃m,i=16+m:=⟨i-16,by omega⟩
  rw [getElem?_append_right (by rw [bB];omega),bB,show 16+m-16=m by omega]
  rcases lt_or_ge m 101 with h2 | h2
  ·rw [getElem?_append_left (by rw [cE];exact h2),nh _ m h2]
   have:os[16+m]?=some os[16+m]:=getElem?_eq_getElem (by omega)
   simp only [this,if_pos h2,getD_some]
  ·obtain ⟨k,rfl⟩:∃k,m=101+k:=⟨m-101,by omega⟩
   rw [getElem?_append_right (by rw [cE];omega),cE,show 101+k-101=k by omega,getElem?_set]
   split
   ·rename_i hjk;subst hjk
    split
    ·have:os[117+j]?=some os[117+j]:=getElem?_eq_getElem (by omega)
     rw [show 16+(101+j)=117+j by omega,this];rfl
    ·rw [show 16+(101+j)=117+j by omega]
     exact getElem?_eq_none (by omega)
   ·have:=hoff (16+(101+k)) (by omega) (.inr ⟨by omega,by omega⟩)
    rw [show 16+(101+k)=117+k by omega,fX] at this
    rw [show 16+(101+k)=117+k by omega]
    exact this
theorem FlS.nextQ {n:Nat}(h:FlS n rg lk es x){T2:VT}(hr:fe (bU n) T2)(hlen:T2.objs.length=(fy o rg lk es ck now came went x y).objs.length)(htl:T2.tails= [])(hoff:∀i,¬bU n i→T2.objs[i]?=(fy o rg lk es ck now came went x y).objs[i]?):
  ∃rg1 x1,T2=fy o rg1 lk es ck now came went x1 y∧FlS n rg1 lk es x1:=by
 have hn:=h.hn
 rw [ed] at hlen
 have hT:=Gi y.length hlen htl λi h1 h2=>hoff i (by unfold bU;omega)
 rw [List.set_eq_of_length_le (le_refl _)] at hT
 refine ⟨_,_,hT,hn,?_,λi hi=> ?_,h.map,h.ents⟩
 ·rw [hT] at hr
  exact lz hr λq hq=>rZ hn hq
 ·split
  ·rename_i h2
   have:=hoff (16+i) (by unfold bU;omega)
   rw [gC h2,h.none i hi] at this
   rw [this];rfl
  ·rfl
theorem FlS.next {n:Nat}(h:FlS n rg lk es x){T2:VT}(hr:fe (bU n) T2)(hk:Kp (bU n) (fy o rg lk es ck now came went x y) T2):
 ∃rg1 x1,T2=fy o rg1 lk es ck now came went x1 y∧FlS n rg1 lk es x1:=h.nextQ hr hk.len hk.tails hk.off
theorem K4 {n j:Nat}(hn:n≤101)(hx:∀i,n≤i→x i=.gone){T2:VT}(hk:Kp (λq=>bU n q∨q=117+j) (fy o rg lk es ck now came went x y) T2):
  ∃rg1 x1 l,T2=fy o rg1 lk es ck now came went x1 (y.set j l)∧∀i,n≤i→x1 i=.gone:=by
 have hlen:=hk.len
 rw [ed] at hlen
 have hT:=Gi j hlen hk.tails λi h1 h2=>hk.off i (by unfold bU;omega)
 refine ⟨_,_,_,hT,λi hi=> ?_⟩
 split
 ·rename_i h2
  have:=hk.off (16+i) (by unfold bU;omega)
  rw [gC h2,hx i hi] at this
  rw [this];rfl
 ·rfl
theorem DA:∃inf:TypeInfo,prog.info? 31=some inf∧inf.size=5:=
 ⟨(prog.info? 31).getD default,by kernel_rfl,by kernel_rfl⟩
theorem DB:∃inf:TypeInfo,prog.info? 49=some inf∧inf.size=7:=
 ⟨(prog.info? 49).getD default,by kernel_rfl,by kernel_rfl⟩
theorem Fo {T:VT}{a:Operand}{l:List (Nat × TV)}{id:Nat}{e:En}{u v:TV}(ha:aq ae l a=.ptr id 0)(ho:T.objs[id]?=some (de e u v)):cm prog ae T false (.load 31 a) l (.agg (au e.1)):=by
 obtain ⟨inf,i1,i2⟩:=DA
 refine .mk ?_
 have hc:bJ T (.ptr id 0) 5=some (au e.1):=by
  simp only [bJ,ho,de]
  rfl
 simp [iS,aR,cN,aK,cM,eV,Tryz.underlying31,i1,i2,ge,ha,hc]
theorem Fp {T:VT}{a:Operand}{l:List (Nat × TV)}{id:Nat}{e:En}{u v:TV}(ha:aq ae l a=.ptr id 0)(ho:T.objs[id]?=some (de e u v)):aM prog ae 0 T (.load 49 a) l (.agg (aO e)) T:=by
 obtain ⟨inf,i1,i2⟩:=DB
 refine .mk ?_
 have hc:bJ T (.ptr id 0) 7=some (aO e):=by
  simp only [bJ,ho,de]
  rfl
 have h1:aR prog (.load 49 a) (aq ae l)=none:=by simp [aR,cN]
 have h2:aK prog T (.load 49 a) (aq ae l)=some (.agg (aO e)):=by simp [aK,cM,eV,Tryz.underlying49,i1,i2,ge,ha,hc]
 simp only [eY,h1,h2]
theorem Fq {T:VT}{a:Operand}{l:List (Nat × TV)}{id off:Nat}{cs:List TV}{u:TV}(ha:aq ae l a=.ptr id off)(ho:T.objs[id]?=some (.cells cs))(hy:cs[off]?=some u):aM prog ae 0 T (.load 96 a) l u T:=by
 obtain ⟨inf,i1,_⟩:=yE
 exact mG (inf:=inf) Tryz.underlying96 rfl i1 ha ho hy
def lA (f:Fl)(lk:Value→Option TV):Value→Option TV:=λkk=>bif am (da f) kk then none else lk kk
theorem FlS.del {n:Nat}(h:FlS n rg lk es x)(f:Fl):FlS n rg (lA f lk) (df (da f) es) x where
 hn:=h.hn
 ring:=h.ring
 none:=h.none
 map:=λk v hv=>by
  unfold lA at hv
  cases hb:am (da f) k with
  |true=>rw [hb] at hv;cases hv
  |false=>rw [hb] at hv;exact h.map k v hv
 ents:=λe he=>h.ents e ((nz es).subset he)
theorem yH {n p:Nat}(h:FlS n rg lk es x)(hp:bU n p):∃rg1 x1 f,FlS n rg1 (lA f lk) (df (da f) es) x1∧Kp (bU n) (fy o rg lk es ck now came went x y) (fy o rg1 lk es ck now came went x1 y)∧
  VCx prog ae 0 yD [.ptr 6 0,.ptr p 0] (fy o rg lk es ck now came went x y) λr T'=>r=.tup []∧T'=Gc (fy o rg lk es ck now came went x y) rg1 (.map kF (lA f lk) (df (da f) es) ck) x1:=by
 obtain ⟨T2,r2,k2,hv⟩:=uM (h.at o lk es ck now came went y) hp
 obtain ⟨rg1,x1,hT,h1⟩:=h.next r2 k2
 rw [hT] at r2 k2
 obtain ⟨e,a,c,q1,_⟩:=r2 p hp
 refine ⟨rg1,x1,e.1,h1.del e.1,k2,?_⟩
 rw [Jq]
 have hC:aQ prog ae (az [(vW,Ad p (λT=>T=fy o rg lk es ck now came went x y) rg1 x1)]):=aE λq hq=>by
  obtain rfl:=mem_singleton.1 hq
  rintro ro ys T K ⟨⟨rfl,rfl,rfl⟩,hk⟩
  refine hv.mono ?_
  rintro r T' ⟨rfl,rfl⟩
  rw [pI] at hk
  rw [hT];exact hk
 exact ap ah ag hC ak (K3 o rg lk es ck now came went x y rg1 x1 p e.1 _ _) ⟨⟨rfl,rfl,rfl⟩,Fo rfl q1,rfl,rfl⟩
def fR (o:Nat→VO):Prop:=∀i,i<16→∀f g:Nat→Option Nat,(∀j,j<16→f j=some j)→(o i).ren f g=o i
theorem DC (f g:Nat→Option Nat){n:Nat}(hf:∀i,i<n→f (16+i)=some (16+i)):∀es:Es,(∀e∈es,∃i,i<n∧e.2.1=.ptr (16+i) 0)→es.map (λe=>(e.1,e.2.1.ren f g,e.2.2))=es
 |[],_=>rfl
 | (a,b,c)::es,h=>by
  obtain ⟨i,hi,e⟩:=h _ mem_cons_self
  simp only at e
  subst e
  simp only [map_cons,DC f g hf es λe he=>h e (mem_cons_of_mem _ he),TV.ren,hf i hi]
theorem Ht {n:Nat}(f g:Nat→Option Nat)(hf:∀i,i<n→f (16+i)=some (16+i))(hm:∀k v,lk k=some v→∃i,i<n∧v=.ptr (16+i) 0)(he:∀e∈es,∃i,i<n∧e.2.1=.ptr (16+i) 0)(ck:Nat):VO.ren f g (.map kF lk es ck)=.map kF lk es ck:=by
 have h1:(λk=>(lk k).map (TV.ren f g))=lk:=by
  funext k
  cases hk:lk k with
  |none=>rfl
  |some v=>
   obtain ⟨i,hi,rfl⟩:=hm k v hk
   simp only [map_some,TV.ren,hf i hi]
 simp only [VO.ren,h1,DC f g hf es he]
theorem DD {n:Nat}(f g:Nat→Option Nat)(hf:∀p,bU n p→f p=some p){e:En}{a c:Nat}(ha:bU n a)(hc:bU n c):VO.ren f g (cK e a c)=cK e a c:=by
 simp only [cK,de,aO,i5,au,bQ,VO.ren,av,List.cons_append,List.nil_append,TV.ren,hf a ha,hf c hc]
theorem ni {n:Nat}(h:FlS n rg lk es x)(ho:fR o)(f g:Nat→Option Nat)(hf:∀j,j<16+n→f j=some j):(cj o rg lk es ck now came went++aB x).map (VO.ren f g)=cj o rg lk es ck now came went++aB x:=by
 have hV:∀p,bU n p→f p=some p:=λp hp=>hf p (by unfold bU at hp;omega)
 have h16:∀j,j<16→f j=some j:=λj hj=>hf j (by omega)
 have er:VO.ren f g rg=rg:=by
  obtain ⟨e,a,c,h1,h2,h3⟩:=h.ring 4 (.inl rfl)
  unfold lx at h1
  rw [fW (by decide)] at h1
  have:rg=cK e a c:=by simpa [cj] using h1
  rw [this];exact DD f g hV h2 h3
 have em:=Ht f g (n:=n) (λi hi=>hf _ (by omega)) h.map h.ents ck
 have et:VO.ren f g (ml now came went)=ml now came went:=by simp only [ml,VO.ren,av,TV.ren,h16 5 (by decide),h16 4 (by decide)]
 have ex:(aB x).map (VO.ren f g)=aB x:=by
  unfold aB
  rw [map_map]
  refine List.map_congr_left λi hi=> ?_
  have hi:=List.mem_range.1 hi
  simp only [comp]
  rcases lt_or_ge i n with h1 | h1
  ·obtain ⟨e,a,c,q1,q2,q3⟩:=h.ring (16+i) (.inr ⟨by omega,by omega⟩)
   unfold lx at q1
   rw [gC hi] at q1
   injection q1 with q1
   rw [q1];exact DD f g hV q2 q3
  ·rw [h.none i h1];rfl
 rw [map_append,ex]
 have o':=λi (hi:i<16)=>ho i hi f g h16
 simp only [cj,map_cons,map_nil,o' 0 (by decide),o' 1 (by decide),o' 2 (by decide),o' 3 (by decide),o' 7 (by decide),o' 8 (by decide),o' 9 (by decide),o' 10 (by decide),o' 11 (by decide),o' 12 (by decide),o' 13 (by decide),o' 14 (by decide),o' 15 (by decide),er,em,et]
end
end
set_option maxRecDepth 100000
section
open Go.RowKit Go.Maps Go.Sort
theorem dJ {G:aD}{T:VT}{t:TypeId}{m k:Operand}{ok:Bool}{l:List (Nat × TV)}{y:TV}(h:cV prog T t (aq G l m) (aq G l k) ok=some y):cm prog G T false (.lookup t m k ok) l y:=by
 refine .mk ?_
 have h1:aR prog (.lookup t m k ok) (aq G l)=none:=by simp [aR,cN]
 have h2:aK prog T (.lookup t m k ok) (aq G l)=some y:=by simp only [aK,h]
 simp only [iS,h1,h2,cond_false]
def vY (l:List aN):aN:=l.headD (0,0,0)
def wF (l:List aN):Bool:= !l.isEmpty
section
variable {lk lk2:Value→Option TV}{es es2:List (Value × TV × Nat)}{ck ck2:Nat}{S:List aN}{st:List Nat}{R:cP}
theorem Js (h:SitesOk lk es ck S st)(h2:RepsOk lk2 es2 R)(n:Int):∀ro ys T K,rS (sT lk lk2 es es2 ck ck2).objs [.ptr 0 0,.val (.int .i64 n)] (.vec 3 ((dq S R n).map be) .none) ro ys T K→VCx prog ae ro jQ ys T K:=
 zU h h2 rfl (λf g=>by simp only [TV.ren,fD,Tok.ren]) (IZ h h2 n)
theorem Jt (h:SitesOk lk es ck S st)(h2:RepsOk lk2 es2 R)(n:Int):
  VCx prog ae 0 zT [.ptr 0 0,.val (.int .i64 n)] (sT lk lk2 es es2 ck ck2) λx T'=>x=.tup [iH (vY (dq S R n)),.val (.bool (wF (dq S R n)))]∧T'=sT lk lk2 es es2 ck ck2:=by
 have hab:=Js (ck2:=ck2) h h2 n
 have e1:=h.ren (ai 3) (ai 0)
 have e2:=h2.ren ck2 (ai 3) (ai 0)
 unfold kI at e1 e2
 cases hl:dq S R n with
 |nil=>
  rw [hl] at hab
  refine VCx.keepQ 3 0 (le_refl _) (le_refl _) (ap ah ag (aE λp hp=>by obtain rfl:=mem_singleton.1 hp;exact hab) ak (IU lk lk2 es es2 ck ck2 n _) ?_)
  refine ⟨⟨rfl,rfl,rfl⟩,rfl,?_⟩
  simp only [VT.keep,take_succ_cons,take_zero,map_cons,map_nil,e1,e2,sT,kI]
  rfl
 |cons s l=>
  obtain ⟨i,a,c⟩:=s
  rw [hl] at hab
  refine VCx.keepQ 3 0 (le_refl _) (le_refl _) (ap ah ag (aE λp hp=>by obtain rfl:=mem_singleton.1 hp;exact hab) ak (IV lk lk2 es es2 ck ck2 i a c (l.map be) n _) ?_)
  refine ⟨⟨rfl,rfl,rfl⟩,rfl,?_⟩
  simp only [VT.keep,take_succ_cons,take_zero,map_cons,map_nil,e1,e2,sT,kI]
  rfl
def lE (R:cP)(i:Int):Int × Int:=(R i).getD (0,0)
end
end
set_option maxRecDepth 100000
section
open Go.RowKit Go.Maps Go.Sort
section
variable {o:Nat→VO}{rg:VO}{lk:Value→Option TV}{es:Es}{ck:Nat}{now came went:Int}{x:Nat→VO}{y:List VO}
def r6 (y:List VO):Prop:=∀z∈y,∀f g:Nat→Option Nat,z.ren f g=z
theorem fQ {n j:Nat}(h:j<n):ai n j=some j:=by simp [ai,h]
theorem uN {n:Nat}(h:FlS n rg lk es x)(ho:fR o)(hy:r6 y)(l:List VO)(k:Nat)(hk:k=117+y.length):VT.keep (fy o rg lk es ck now came went x (y++l)) k 0=fy o rg lk es ck now came went x y:=by
 subst hk
 have hn:=h.hn
 have e1:(cj o rg lk es ck now came went++(aB x++(y++l))).take (117+y.length)=(cj o rg lk es ck now came went++aB x)++y:=by
  rw [show cj o rg lk es ck now came went++(aB x++(y++l))=((cj o rg lk es ck now came went++aB x)++y)++l by simp only [append_assoc]]
  exact take_left' (by simp only [length_append,bB,cE])
 have e2:=ni (ck:=ck) (now:=now) (came:=came) (went:=went) h ho (ai (117+y.length)) (ai 0) λj hj=>fQ (by omega)
 have e3:y.map (VO.ren (ai (117+y.length)) (ai 0))=y:=(List.map_congr_left λz hz=>hy z hz _ _).trans (List.map_id y)
 simp only [VT.keep,fy]
 rw [e1,map_append,e2,e3,append_assoc]
 rfl
theorem FlS.links {n p:Nat}(h:FlS n rg lk es x)(hp:bU n p)(o:Nat→VO)(lk':Value→Option TV)(es':Es)(ck:Nat)(now came went:Int)(y:List VO):∃e a c,(fy o rg lk' es' ck now came went x y).objs[p]?=some (cK e a c)∧bU n a∧bU n c:=h.at o lk' es' ck now came went y p hp
theorem DE {n:Nat}(h:FlS n rg lk es x)(ho:fR o)(y0 y1 y2 y3:VO)(hy:r6 [y0,y1,y2,y3]):∃en b rg1 lk1 es1 went1 x1,FlS n rg1 lk1 es1 x1∧(∀k v,lk1 k=some v→lk k=some v)∧Kp (bU n) (fy o rg lk es ck now came went x [y0,y1,y2,y3]) (fy o rg1 lk es ck now came went x1 [y0,y1,y2,y3])∧
  VCx prog ae 0 F9 [.ptr 6 0] (fy o rg lk es ck now came went x [y0,y1,y2,y3]) λr T'=>r=.tup [.agg (aO en),.val (.bool b)]∧T'=Ge (fy o rg lk es ck now came went x [y0,y1,y2,y3]) rg1 (.map kF lk1 es1 ck) (ml now came went1) x1:=by
 by_cases hl:es.length<20
 ·refine ⟨((0,0,0,0,0),0,0),false,rg,lk,es,went,x,h,λ_ _ hv=>hv,Kp.refl _ _,?_⟩
  rw [Dz]
  have hC:aQ prog ae (az [(yD,Dv 4 (λ_=>False) rg .gone x)]):=aE λq hq=>by
   obtain rfl:=mem_singleton.1 hq
   rintro ro ys T K ⟨⟨_,_,hf⟩,_⟩
   exact hf.elim
  refine VCx.keepQ 121 0 (by rw [ed];exact le_refl _) (le_refl _) (ap ah ag hC ak (Gg o rg lk es ck now came went x y0 y1 y2 y3 rg .gone x 4 ((0,0,0,0,0),0,0) _ _) ?_)
  exact aZ (decide_eq_true (by omega)) ⟨rfl,uN h ho hy _ _ rfl⟩
 ·obtain ⟨e,a0,p,h1,hp0,hp⟩:=h.links (.inl rfl) o lk es ck now came went [y0,y1,y2,y3,.cells [.val (.int .i64 0),.val (.int .u32 0),.val (.int .u32 0),.val (.int .i64 0),.val (.int .i64 0),.val (.int .i64 0),.val (.int .i64 0)]]
  obtain ⟨rg1,x1,f,g1,g2,hv⟩:=yH (o:=o) (ck:=ck) (now:=now) (came:=came) (went:=went) (y:= [y0,y1,y2,y3,.cells [.val (.int .i64 0),.val (.int .u32 0),.val (.int .u32 0),.val (.int .i64 0),.val (.int .i64 0),.val (.int .i64 0),.val (.int .i64 0)]]) h hp
  obtain ⟨e2,a2,c2,q1,_⟩:=g1.links hp o (lA f lk) (df (da f) es) ck now came (wrap i64 (went+1)) [y0,y1,y2,y3,.cells [.val (.int .i64 0),.val (.int .u32 0),.val (.int .u32 0),.val (.int .i64 0),.val (.int .i64 0),.val (.int .i64 0),.val (.int .i64 0)]]
  have hk2:Kp (bU n) (fy o rg lk es ck now came went x [y0,y1,y2,y3]) (fy o rg1 lk es ck now came went x1 [y0,y1,y2,y3]):={
   len:=by rw [ed,ed]
   tails:=rfl
   off:=λi hi=>by
    have:=g2.off i hi
    rcases lt_or_ge i 117 with h3 | h3
    ·rcases lt_or_ge i 16 with h4 | h4
     ·rw [fW h4,fW h4] at this ⊢;exact this
     ·obtain ⟨j,rfl⟩:∃j,i=16+j:=⟨i-16,by omega⟩
      rw [gC (by omega),gC (by omega)] at this ⊢;exact this
    ·obtain ⟨j,rfl⟩:∃j,i=117+j:=⟨i-117,by omega⟩
     rw [fX,fX]
   kept:=λq e0 u0 v0 hq hl0=>by
    have hx1:=rZ (x:=x1) (rg:=rg1) (o:=o) (lk:=lk) (es:=es) (ck:=ck) (now:=now) (came:=came) (went:=went) (y:= [y0,y1,y2,y3,.cells [.val (.int .i64 0),.val (.int .u32 0),.val (.int .u32 0),.val (.int .i64 0),.val (.int .i64 0),.val (.int .i64 0),.val (.int .i64 0)]]) (o':=o) (lk':=lk) (es':=es) (ck':=ck) (now':=now) (came':=came) (went':=went) (y':= [y0,y1,y2,y3]) h.hn hq
    have hx0:=rZ (x:=x) (rg:=rg) (o:=o) (lk:=lk) (es:=es) (ck:=ck) (now:=now) (came:=came) (went:=went) (y:= [y0,y1,y2,y3]) (o':=o) (lk':=lk) (es':=es) (ck':=ck) (now':=now) (came':=came) (went':=went) (y':= [y0,y1,y2,y3,.cells [.val (.int .i64 0),.val (.int .u32 0),.val (.int .u32 0),.val (.int .i64 0),.val (.int .i64 0),.val (.int .i64 0),.val (.int .i64 0)]]) h.hn hq
    rw [hx1]
    exact g2.kept q e0 u0 v0 hq (hx0.trans hl0)}
  refine ⟨e2,true,rg1,lA f lk,df (da f) es,wrap i64 (went+1),x1,g1,λk v hv=> ?_,hk2,?_⟩
  ·unfold lA at hv
   cases hb:am (da f) k with
   |true=>rw [hb] at hv;cases hv
   |false=>rw [hb] at hv;exact hv
  ·rw [Dz]
   have hC:aQ prog ae (az [(yD,Dv p (λT=>T=fy o rg lk es ck now came went x [y0,y1,y2,y3,.cells [.val (.int .i64 0),.val (.int .u32 0),.val (.int .u32 0),.val (.int .i64 0),.val (.int .i64 0),.val (.int .i64 0),.val (.int .i64 0)]]) rg1 (.map kF (lA f lk) (df (da f) es) ck) x1)]):=aE λq hq=>by
    obtain rfl:=mem_singleton.1 hq
    rintro ro ys T K ⟨⟨rfl,rfl,rfl⟩,hk⟩
    refine hv.mono ?_
    rintro r T' ⟨rfl,rfl⟩
    exact hk
   refine VCx.keepQ 121 0 (by rw [ed];exact le_refl _) (le_refl _) (ap ah ag hC ak (Gg o rg lk es ck now came went x y0 y1 y2 y3 rg1 (.map kF (lA f lk) (df (da f) es) ck) x1 p e2 _ _) ?_)
   rw [fW (by decide)] at h1
   have hrg:rg=cK e a0 p:=by simpa [cj] using h1
   refine aA (decide_eq_false (by omega)) ⟨?_,⟨rfl,rfl,rfl⟩,Fp rfl q1,rfl,?_⟩
   ·subst hrg
    exact Fq (cs:=aO e++ [.ptr a0 0,.ptr p 0]) (id:=4) (off:=8) rfl rfl rfl
   ·exact uN (y:= [y0,y1,y2,y3]) g1 ho hy _ _ rfl
end
end
set_option maxRecDepth 100000
section
open Go.RowKit Go.Maps Go.Sort
section
variable {o:Nat→VO}{rg:VO}{lk:Value→Option TV}{es:Es}{ck:Nat}{now came went:Int}{x:Nat→VO}{z:VO}{n:Nat}{f:Fl}{b m:Int}
theorem gT {T:VT}{id:Nat}(hid:T.objs[id]?=some (.map kF lk es ck)):cV prog T 97 (.map id) (.agg (au f)) false=some (cg false (lk (da f)) (.pointer none)):=by
 have h:∀u:Option VO,u=some (.map kF lk es ck)→(match prog.underlying 97,bM (.agg (au f)) with
   |some (.map kt et),some kv=>match cf prog kt,prog.info? et with
    |some sh,some i=>match i.zero with
     |some zz=>bif sh.fits kv then (match u with
       |some (.map sh' look _ _)=>bif gW sh sh' then some (cg false (look kv) zz) else none
       |_=>none) else none
     |none=>none
    |_,_=>none
   |_,_=>none)=some (cg false (lk (da f)) (.pointer none)):=by
  rintro _ rfl
  kernel_rfl
 exact h _ hid
def Ae:VO:=.cells [.val (.int .i64 0),.val (.int .u32 0),.val (.int .u32 0),.val (.int .i64 0),.val (.int .i64 0),.val (.int .i64 0),.val (.int .i64 0)]
def yI (e:En):VO:=.cells (aO e)
def i6 (z:VO)(f:Fl):List VO:= [z,.cells (au f),Ae,Ae]
def Gj (r:TV):Prop:=∃(en:En) (q:Bool),r=.tup [.agg (aO en),.val (.bool q)]
theorem pJ {i:Nat}(h:FlS n rg lk es x)(hi:i<n)(o:Nat→VO)(lk':Value→Option TV)(es':Es)(ck:Nat)(now came went:Int)(y:List VO):∃e a c,(fy o rg lk' es' ck now came went x y).objs[16+i]?=some (cK e a c)∧x i=cK e a c∧bU n a∧bU n c:=by
 have hn:=h.hn
 obtain ⟨e,a,c,h1,h2⟩:=h.links (p:=16+i) (.inr ⟨by omega,by omega⟩) o lk' es' ck now came went y
 refine ⟨e,a,c,h1,?_,h2⟩
 rw [gC (by omega)] at h1
 injection h1
theorem Mj {T:VT}{x y:Operand}{l:List (Nat × TV)}{a:Nat}{b:Int}{e:En}{u v:TV}(ha:aq ae l x=.ptr a 5)(hx:aq ae l y=.val (.int .i64 b))(h:T.objs[a]?=some (de e u v)):aM prog ae 0 T (.store 3 x y) l (.val undef) (cD T a (de (e.1,b,e.2.2) u v)):=by
 obtain ⟨inf,i1,i2⟩:=yF
 have hs:=lu (P:=prog) (G:=ae) (ro:=0) (T:=T) (t:=3) (a:=x) (x:=y) (l:=l) (id:=a) (off:=5) (cs:=aO e++ [u,v]) (new:= [.val (.int .i64 b)]) i1 ha (by rw [hx];rfl) h (by rw [i2];rfl) (by show 6≤9;decide) rfl (zero_le _)
 rw [pD _ _ _ (by show 5<9;decide)] at hs
 exact hs
theorem Af (h:FlS n rg lk es x)(ho:fR o)(hz:r6 [z]){i:Nat}(hi:i<n)(hf:lk (da f)=some (.ptr (16+i) 0)):∃rg3 x3 now3,FlS n rg3 lk es x3∧(∃e a c,x3 i=cK e a c∧e.2.1=b)∧
  VCx prog ae 0 pG [.ptr 6 0,.agg (au f),.val (.int .i64 b),.val (.int .i64 m)] (fy o rg lk es ck now came went x [z]) λr T'=>Gj r∧T'=fy o rg3 lk es ck now3 came went x3 [z]:=by
 have hn:=h.hn
 have hp:bU n (16+i):=.inr ⟨by omega,by omega⟩
 let now':Int:=if m>now then m else now
 obtain ⟨T2,r2,k2,hv2⟩:=uM (h.at o lk es ck now' came went (i6 z f)) hp
 obtain ⟨rg1,x1,hT2,h1⟩:=h.next r2 k2
 subst hT2
 obtain ⟨e,a,c,q1,q2,qa,qc⟩:=pJ h1 hi o lk es ck now' came went (i6 z f)
 let e2:En:=(e.1,b,e.2.2)
 have hlt:=mn q1
 let T3:=cD (fy o rg1 lk es ck now' came went x1 (i6 z f)) (16+i) (cK e2 a c)
 have r3:fe (bU n) T3:=ly r2 hlt qa qc
 have a3:∀q,T3.objs[q]?=if 16+i=q then some (cK e2 a c) else (fy o rg1 lk es ck now' came went x1 (i6 z f)).objs[q]?:=λq=>jT hlt
 obtain ⟨rg2,x2,hT3,h2⟩:=h1.nextQ (o:=o) (ck:=ck) (now:=now') (came:=came) (went:=went) (y:=i6 z f) (T2:=T3) r3 (by simp [T3,cD]) rfl λj hj=>by rw [a3,if_neg λ(k:16+i=j)=>hj (k▸hp)]
 have hrg:rg2=rg1:=by
  have:=a3 4
  rw [hT3,if_neg (by omega),fW (by decide),fW (by decide)] at this
  simpa [cj] using this
 subst hrg
 have hp3:(fy o rg2 lk es ck now' came went x2 (i6 z f)).objs[16+i]?=some (de e2 (.ptr a 0) (.ptr c 0)):=by rw [←hT3,a3,if_pos rfl];rfl
 obtain ⟨T4,r4,k4,hv4⟩:=rY (V:=bU n) (T:=fy o rg2 lk es ck now' came went x2 (i6 z f)) (p:=16+i) (now:=now') (came:=came) (went:=went) (h2.at o lk es ck now' came went (i6 z f)) rfl (.inl rfl) (by unfold bU;omega) (by omega) (by omega) hp3 rfl rfl
 have hV:∀q,(bU n q∨q=16+i) ↔ bU n q:=λq=>⟨λk=>k.elim id λk=>k▸hp,.inl⟩
 have r4':fe (bU n) T4:=λq hq=>by
  obtain ⟨e,a,c,g1,g2,g3⟩:=r4 q (.inl hq)
  exact ⟨e,a,c,g1,(hV a).1 g2,(hV c).1 g3⟩
 obtain ⟨rg3,x3,hT4,h3⟩:=h2.nextQ (T2:=T4) r4' k4.len k4.tails λj hj=>k4.off j λk=>hj ((hV j).1 k)
 subst hT4
 obtain ⟨e5,u5,v5,g5,_,g6⟩:=k4.kept (16+i) e2 _ _ (.inr rfl) hp3
 obtain ⟨e6,a6,c6,q6,q7,_⟩:=pJ h3 hi o lk es ck now' came went (i6 z f)
 have hb:e6.2.1=b:=by
  rw [q6] at g5;injection g5 with g5
  obtain ⟨rfl,_⟩:=ng g5
  exact g6
 refine ⟨rg3,x3,now',h3,⟨e6,a6,c6,q7,hb⟩,?_⟩
 have hC:aQ prog ae (az [(vW,Ad (16+i) (λT=>T=fy o rg lk es ck now' came went x (i6 z f)) rg2 x1),(vX,Gf (16+i) (λT=>T=fy o rg2 lk es ck now' came went x2 (i6 z f)) rg3 x3)]):=aE λq hq=>by
  simp only [mem_cons,not_mem_nil,or_false] at hq
  rcases hq with rfl | rfl
  ·rintro ro ys T K ⟨⟨rfl,rfl,rfl⟩,hk⟩
   refine hv2.mono ?_
   rintro r T' ⟨rfl,rfl⟩
   rw [pI] at hk
   exact hk
  ·rintro ro ys T K ⟨⟨rfl,rfl,rfl⟩,hk⟩
   refine hv4.mono ?_
   rintro r T' ⟨rfl,rfl⟩
   rw [pI] at hk
   exact hk
 refine VCx.keepQ 118 0 (by rw [ed];exact le_refl _) (le_refl _) (ap ah ag hC ak (Jo o rg lk es ck now came went x z rg2 rg3 x1 x2 x3 (16+i) f b m _ _ _) ?_)
 refine ⟨dJ ((gT (T:=fy o rg lk es ck now' came went x (i6 z f)) (lk:=lk) (es:=es) (ck:=ck) rfl).trans (by rw [hf];rfl)),⟨rfl,rfl,rfl⟩,?_,⟨rfl,rfl,rfl⟩,⟨((0,0,0,0,0),0,0),false,rfl⟩,?_⟩
 ·have hs:=Mj (T:=fy o rg2 lk es ck now' came went x1 (i6 z f)) (x:=.tmp 56) (y:=.tmp 53) (l:= [(56,.ptr (16+i) 5),(53,.val (.int .i64 b))]) (a:=16+i) (b:=b) rfl rfl q1
  have e9:cD (fy o rg2 lk es ck now' came went x1 (i6 z f)) (16+i) (de (e.1,b,e.2.2) (TV.ptr a 0) (TV.ptr c 0))=fy o rg2 lk es ck now' came went x2 (i6 z f):=hT3
  rw [e9] at hs
  exact hs
 ·exact uN (y:= [z]) h3 ho hz _ _ rfl
structure Ju (n e:Nat) (lk:Value→Option TV) (es:Es):Prop where
 map:∀k v,lk k=some v→∃p,((∃i,i<n∧p=16+i)∨p=e)∧v=.ptr p 0
 ents:∀a∈es,∃p,((∃i,i<n∧p=16+i)∨p=e)∧a.2.1=.ptr p 0
def pK (f:Fl)(p:Nat)(lk:Value→Option TV):Value→Option TV:=λkk=>bif am (da f) kk then some (.ptr p 0) else lk kk
theorem vZ {k:Value}{v:TV}{ck:Nat}:∀{es:Es} {e},e∈bt k v ck es→e.2.1=v∨∃e' ∈es,e.2.1=e'.2.1
  |[],e,h=>by
    rw [mem_singleton.1 h];exact .inl rfl
  |a::es,e,h=>by
    simp only [bt] at h
    cases hb:am k a.1 with
    |true=>
      rw [hb,cond_true] at h
      rcases mem_cons.1 h with rfl | h
      · exact .inl rfl
      · exact .inr ⟨e,mem_cons_of_mem _ h,rfl⟩
    |false=>
      rw [hb,cond_false] at h
      rcases mem_cons.1 h with rfl | h
      · exact .inr ⟨e,mem_cons_self,rfl⟩
      · rcases vZ h with h1 | ⟨e',h1,h2⟩
        · exact .inl h1
        · exact .inr ⟨e',mem_cons_of_mem _ h1,h2⟩
theorem FlS.putN (h:FlS n rg lk es x)(f:Fl)(e ck:Nat):Ju n e (pK f e lk) (bt (da f) (.ptr e 0) ck es) where
 map:=λk v hv=>by
  unfold pK at hv
  cases hb:am (da f) k with
  |true=>rw [hb] at hv;injection hv with hv;exact ⟨e,.inr rfl,hv.symm⟩
  |false=>
   rw [hb] at hv
   obtain ⟨i,hi,rfl⟩:=h.map k v hv
   exact ⟨16+i,.inl ⟨i,hi,rfl⟩,rfl⟩
 ents:=λa ha=>by
  rcases vZ ha with h1 | ⟨e',h1,h2⟩
  ·exact ⟨e,.inr rfl,h1⟩
  ·obtain ⟨i,hi,h3⟩:=h.ents e' h1
   exact ⟨16+i,.inl ⟨i,hi,rfl⟩,h2.trans h3⟩
theorem yJ (h:FlS n rg lk es x)(ho:fR o)(hz:r6 [z])(hf:lk (da f)=none):∃rg3 lk3 es3 ck3 now3 came3 went3 x3 l b1 b2 b3,Ju n 121 lk3 es3∧(∀i,n≤i→x3 i=.gone)∧lk3 (da f)=some (.ptr 121 0)∧
  fe (λq=>bU n q∨q=121) (fy o rg3 lk3 es3 ck3 now3 came3 went3 x3 [z,b1,b2,b3,l])∧(∃e u v,l=de e u v∧e.2.1=b)∧
  VCx prog ae 0 pG [.ptr 6 0,.agg (au f),.val (.int .i64 b),.val (.int .i64 m)] (fy o rg lk es ck now came went x [z]) λr T'=>Gj r∧T'=fy o rg3 lk3 es3 ck3 now3 came3 went3 x3 [z,b1,b2,b3,l]:=by
 have hn:=h.hn
 let now':Int:=if m>now then m else now
 have hY:r6 (i6 z f):=λw hw g1 g2=>by
  simp only [i6,mem_cons,not_mem_nil,or_false] at hw
  rcases hw with rfl | rfl | rfl | rfl
  ·exact hz _ mem_cons_self _ _
  ·rfl
  ·rfl
  ·rfl
 obtain ⟨en,q,rg1,lk1,es1,went1,x1,h1,hsub,_,hv1⟩:=DE (o:=o) (ck:=ck) (now:=now') (came:=came) (went:=went) h ho z (.cells (au f)) Ae Ae hY
 have hf1:lk1 (da f)=none:=by
  cases hc:lk1 (da f) with
  |none=>rfl
  |some v=>rw [hsub _ _ hc] at hf;cases hf
 let came':Int:=wrap i64 (came+1)
 let Y2:List VO:= [z,.cells (au f),Ae,yI en,de (f,b,0) (.val (.pointer none)) (.val (.pointer none))]
 let T2:VT:=fy o rg1 (pK f 121 lk1) (bt (da f) (.ptr 121 0) ck es1) (ck+1) now' came' went1 x1 Y2
 obtain ⟨T3,r3,k3,hv3⟩:=rY (V:=bU n) (T:=T2) (p:=121) (now:=now') (came:=came') (went:=went1) (h1.at o _ _ _ _ _ _ Y2) rfl (.inl rfl) (by unfold bU;omega) (by omega) (by omega) (show T2.objs[117+4]?=some (de (f,b,0) (.val (.pointer none)) (.val (.pointer none))) by rw [fX];rfl) rfl rfl
 obtain ⟨rg3,x3,l,hT3,hx3⟩:=K4 (j:=4) hn h1.none (o:=o) (rg:=rg1) (lk:=pK f 121 lk1) (es:=bt (da f) (.ptr 121 0) ck es1) (ck:=ck+1) (now:=now') (came:=came') (went:=went1) (x:=x1) (y:=Y2) (T2:=T3) k3
 obtain ⟨e5,u5,v5,g5,_,g6⟩:=k3.kept 121 (f,b,0) _ _ (.inr rfl) (show T2.objs[117+4]?=some (de (f,b,0) (.val (.pointer none)) (.val (.pointer none))) by rw [fX];rfl)
 have hl:l=de e5 u5 v5:=by
  have:T3.objs[117+4]?=some l:=by rw [hT3,fX];rfl
  rw [show (121:Nat)=117+4 from rfl,this] at g5
  injection g5
 subst hT3
 have hre:fe (λq=>bU n q∨q=121) (fy o rg3 (pK f 121 lk1) (bt (da f) (.ptr 121 0) ck es1) (ck+1) now' came' went1 x3 [z,.cells (au f),yI en,yI en,l]):=lz r3 λq hq=>by
  rcases hq with hq | rfl
  ·exact rZ hn hq
  ·rw [show (121:Nat)=117+4 from rfl,fX,fX];rfl
 refine ⟨rg3,_,_,_,_,_,_,x3,l,.cells (au f),yI en,yI en,h1.putN f 121 ck,hx3,?_,hre,⟨e5,u5,v5,hl,g6⟩,?_⟩
 ·have:am (da f) (da f)=true:=by simp [da,am,dx,cG]
  simp only [pK,this,cond_true]
 ·have hC:aQ prog ae (az [(F9,LR (λT=>T=fy o rg lk es ck now' came went x (i6 z f)) en q rg1 (.map kF lk1 es1 ck) (ml now' came went1) x1),(vX,LP 121 (λT=>T=T2) rg3 x3 l)]):=aE λr hr=>by
   simp only [mem_cons,not_mem_nil,or_false] at hr
   rcases hr with rfl | rfl
   ·rintro ro ys T K ⟨⟨rfl,rfl,rfl⟩,hk⟩
    refine hv1.mono ?_
    rintro r T' ⟨rfl,rfl⟩
    exact hk
   ·rintro ro ys T K ⟨⟨rfl,rfl,rfl⟩,hk⟩
    refine hv3.mono ?_
    rintro r T' ⟨rfl,rfl⟩
    rw [Jr] at hk
    exact hk
  refine ap ah ag hC ak (Jp o rg lk es ck now came went x z rg1 rg3 l lk1 es1 ck now' came went1 x1 x3 f en q b m _ _ _) ?_
  have hck:(match lk1 (da f) with | some _=>ck | none=>ck+1)=ck+1:=by rw [hf1]
  refine ⟨dJ ((gT (T:=fy o rg lk es ck now' came went x (i6 z f)) (lk:=lk) (es:=es) (ck:=ck) rfl).trans (by rw [hf];rfl)),⟨rfl,rfl,rfl⟩,⟨rfl,rfl,?_⟩,⟨en,q,rfl⟩,?_⟩
  ·show fy o rg1 (pK f 121 lk1) (bt (da f) (.ptr 121 0) ck es1) (match lk1 (da f) with | some _=>ck | none=>ck+1) now' came' went1 x1 Y2=T2
   rw [hck]
  ·show fy o rg3 (pK f 121 lk1) (bt (da f) (.ptr 121 0) ck es1) (match lk1 (da f) with | some _=>ck | none=>ck+1) now' came' went1 x3 [z,.cells (au f),yI en,yI en,l]=_
   rw [hck]
end
end
abbrev lG:=32
abbrev yK:=34
abbrev j6:=68
def pL (i a c p u:Int):List TV:= [.val (.int .i64 i),.val (.int .u32 a),.val (.int .i64 c),.val (.int .i64 p),.val (.int .i64 u)]
def mO (L:List (List TV)):VO:=.cells [.vec 5 L .none]
def mL (L:List (List TV))(l:List VO):VT:=⟨mO L::l,[]⟩
def Ag:List Nat:= [1,4,10,11,12]
def v6 (L:List (List TV))(i r j:Int):List TV:= [.val (.int .i64 i),.val (.int .i64 r),.vec 5 L .none,.val (.int .i64 L.length),.val (.int .i64 j)]
def LT (L:List (List TV))(i r:Int)(hit:Bool)(c0:Code):Nat→Option (bH × Code):=dk [(0,ig 24 Ag [] (v6 L i 0 0) (mL L []) λK=>bif hit then (∀cs,K .ret (ay 24 Ag (v6 L i r r)) (mL L [.cells cs]) []) else K .normal (ay 24 Ag (v6 L i 0 L.length)) (mL L []) [],c0)]
def Gk (L:List (List TV))(i r:Int):ba:=λro ys T K=>(ro=0∧ys= [.ptr 0 0,.val (.int .i64 i)]∧T.objs[0]?=some (mO L))∧K (.val (.int .i64 r)) T
def DF:List Nat:= [0,3,5]
def DG (j:Int):List TV:= [.ptr 0 0,.ptr 1 0,.val (.int .i64 j)]
def LU (L:List (List TV))(i a c k:Int)(c0:Code):Nat→Option (bH × Code):=dk [(1,ig 88 DF [] (DG 0) (mL L [.cells (dd i a c)]) λK=>K .normal (ay 88 DF (DG k)) (mL L [.cells (dd i a c)]) [],c0)]
def Jv (T:VT)(n:Nat):VT:={T with tails:= [(n,5,false)]}
theorem K5 (L:List (List TV))(i r:Int)(hit:Bool)(Q:TV→VT→Prop):aH prog ae cT bx 300 (LT L i r hit (ax prog j6 0)) 0 j6 [.ptr 0 0,.val (.int .i64 i)] (mL L []) Q=
 ((ax prog j6 (0:Nat)=ax prog j6 (0:Nat))∧
 (((@Eq (Option Nat) .none .none)∧
 ((@Eq (Nat) 0 0)∧
 ((@Eq (List Nat) [] [])∧
 (True  ∧
 ((@Eq (VT) ⟨[(.cells [(.vec 5 (L) .none)])],[]⟩ ⟨[(.cells [(.vec 5 (L) .none)])],[]⟩)∧
 ((@Eq (Bool) true true)∧
 (@Eq (List TV) [(.val (.int .i64 (i))),(.val (.int .i64 0)),(.vec 5 (L) .none),(.val (.int .i64 ((↑(length L):Int)))),(.val (.int .i64 0))] [(.val (.int .i64 (i))),(.val (.int .i64 0)),(.vec 5 (L) .none),(.val (.int .i64 ((↑(length L):Int)))),(.val (.int .i64 0))])))))))∧
 (bif hit
 then (∀cs:List TV,Q (.val (.int .i64 (r))) ⟨[(.cells [(.vec 5 (L) .none)]),(.cells (cs))],[]⟩)
 else Q (.val (.int .i64 (-1))) ⟨[(.cells [(.vec 5 (L) .none)])],[]⟩))):=by kernel_rfl
theorem DH (L:List (List TV))(i r i' a c p u:Int)(j:Nat)(Q:Exit→List TV→VT→List Nat→Nat→Prop):vx prog ae cT (bp [(999998,.dead,none),(15,.elt (pL i' a c p u),none)]) 300 bo none 0 (dj prog j6 0) (ay 24 Ag (v6 L i r j)) (mL L []) [] (dm Ag Q)=
 (bif decide ((↑j:Int)<(↑(length L):Int))
 then (aJ prog (λ_=>.none) (.indexAddr 78 (.tmp 10) (.tmp 12)) [(10,(.vec 5 (L) .none)),(12,(.val (.int .i64 ((↑j:Int)))))] (.elt [(.val (.int .i64 (i'))),(.val (.int .u32 (a))),(.val (.int .i64 (c))),(.val (.int .i64 (p))),(.val (.int .i64 (u)))])∧
 (bif bN eql (am (Value.int i64 i') (Value.int i64 i))
 then Q .ret [(.val (.int .i64 (i))),(.val (.int .i64 ((↑j:Int)))),(.vec 5 (L) .none),(.val (.int .i64 ((↑(length L):Int)))),(.val (.int .i64 ((↑j:Int))))] ⟨[(.cells [(.vec 5 (L) .none)]),(.cells [(.val (.int .i64 (i'))),(.val (.int .u32 (a))),(.val (.int .i64 (c))),(.val (.int .i64 (p))),(.val (.int .i64 (u)))])],[]⟩ [] 24
 else Q .normal [(.val (.int .i64 (i))),(.val (.int .i64 (r))),(.vec 5 (L) .none),(.val (.int .i64 ((↑(length L):Int)))),(.val (.int .i64 (wrap i64 ((↑j:Int)+(1:Int)))))] ⟨[(.cells [(.vec 5 (L) .none)]),(.cells [(.val (.int .i64 (i'))),(.val (.int .u32 (a))),(.val (.int .i64 (c))),(.val (.int .i64 (p))),(.val (.int .i64 (u)))])],[]⟩ [] 24))
 else Q (.exit 0) [(.val (.int .i64 (i))),(.val (.int .i64 (r))),(.vec 5 (L) .none),(.val (.int .i64 ((↑(length L):Int)))),(.val (.int .i64 ((↑j:Int))))] ⟨[(.cells [(.vec 5 (L) .none)])],[]⟩ [] 24):=by kernel_rfl
theorem K6 (L:List (List TV))(i a c r:Int)(k:Nat)(Q:TV→VT→Prop):aH prog ae (az [(j6,Gk L i r)]) (bp [(999998,.dead,none),(73,.vec 5 (L.take k) .none,none),(84,.vec 5 (L.drop k) .none,none),(74,.vec 5 (L.take k) (.tail 0 (L.take k).length),some λT=>Jv T (L.take k).length),(78,.vec 5 (L.take k++ [pL i a c 0 0]) (.tail 0 ((L.take k).length+1)),some λT=>Jv T ((L.take k).length+1)),(85,.vec 5 (L.take k++ [pL i a c 0 0]++L.drop k) (.tail 0 ((L.take k).length+1+(L.drop k).length)),some λT=>Jv T ((L.take k).length+1+(L.drop k).length))]) 300 (LU L i a c k (ax prog lG 1)) 0 lG [.ptr 0 0,.agg (dd i a c)] (mL L []) Q=
 (bif decide (i<(0:Int))
 then Q (.val (.int .i64 2)) ⟨[(.cells [(.vec 5 (L) .none)]),(.cells [(.val (.int .i64 (i))),(.val (.int .u32 (a))),(.val (.int .i64 (c)))])],[]⟩
 else (bif decide (i>(255:Int))
 then Q (.val (.int .i64 2)) ⟨[(.cells [(.vec 5 (L) .none)]),(.cells [(.val (.int .i64 (i))),(.val (.int .u32 (a))),(.val (.int .i64 (c)))])],[]⟩
 else (bif bN eql (am (Value.int u32 a) (Value.int u32 (0:Int)))
 then Q (.val (.int .i64 2)) ⟨[(.cells [(.vec 5 (L) .none)]),(.cells [(.val (.int .i64 (i))),(.val (.int .u32 (a))),(.val (.int .i64 (c)))])],[]⟩
 else (bif decide (c<(0:Int))
 then Q (.val (.int .i64 2)) ⟨[(.cells [(.vec 5 (L) .none)]),(.cells [(.val (.int .i64 (i))),(.val (.int .u32 (a))),(.val (.int .i64 (c)))])],[]⟩
 else (bif decide (c>(1000000:Int))
 then Q (.val (.int .i64 2)) ⟨[(.cells [(.vec 5 (L) .none)]),(.cells [(.val (.int .i64 (i))),(.val (.int .u32 (a))),(.val (.int .i64 (c)))])],[]⟩
 else (((@Eq (Nat) 0 0)∧
 ((@Eq (List TV) [(.ptr 0 0),(.val (.int .i64 (i)))] [(.ptr 0 0),(.val (.int .i64 (i)))])∧
 (@Eq (Option VO) (.some (.cells [(.vec 5 (L) .none)])) (.some (.cells [(.vec 5 (L) .none)])))))∧
 (bif decide (r≥(0:Int))
 then Q (.val (.int .i64 13)) ⟨[(.cells [(.vec 5 (L) .none)]),(.cells [(.val (.int .i64 (i))),(.val (.int .u32 (a))),(.val (.int .i64 (c)))])],[]⟩
 else (bif decide ((↑(length L):Int)≥(8:Int))
 then Q (.val (.int .i64 6)) ⟨[(.cells [(.vec 5 (L) .none)]),(.cells [(.val (.int .i64 (i))),(.val (.int .u32 (a))),(.val (.int .i64 (c)))])],[]⟩
 else ((ax prog lG (1:Nat)=ax prog lG (1:Nat))∧
 (((@Eq (Option Nat) .none .none)∧
 ((@Eq (Nat) 0 0)∧
 ((@Eq (List Nat) [] [])∧
 (True  ∧
 ((@Eq (VT) ⟨[(.cells [(.vec 5 (L) .none)]),(.cells [(.val (.int .i64 (i))),(.val (.int .u32 (a))),(.val (.int .i64 (c)))])],[]⟩ ⟨[(.cells [(.vec 5 (L) .none)]),(.cells [(.val (.int .i64 (i))),(.val (.int .u32 (a))),(.val (.int .i64 (c)))])],[]⟩)∧
 ((@Eq (Bool) true true)∧
 (@Eq (List TV) [(.ptr 0 0),(.ptr 1 0),(.val (.int .i64 0))] [(.ptr 0 0),(.ptr 1 0),(.val (.int .i64 0))])))))))∧
 (aJ prog (λ_=>.none) (.slice 78 (.tmp 71) .none (.some (.tmp 72)) .none) [(71,(.vec 5 (L) .none)),(72,(.val (.int .i64 ((↑k:Int)))))] (.vec 5 (List.take k L) .none)∧
 (aJ prog (λ_=>.none) (.slice 78 (.tmp 82) (.some (.tmp 83)) .none .none) [(82,(.vec 5 (L) .none)),(83,(.val (.int .i64 ((↑k:Int)))))] (.vec 5 (drop k L) .none)∧
 (aM prog (λ_=>.none) 0 ⟨[(.cells [(.vec 5 (L) .none)]),(.cells [(.val (.int .i64 (i))),(.val (.int .u32 (a))),(.val (.int .i64 (c)))])],[]⟩ (.call ⟨(.builtin .append),#[(.tmp 67),(.tmp 73)],#[78,78]⟩) [(67,(.vec 5 [] .full)),(73,(.vec 5 (List.take k L) .none))] (.vec 5 (List.take k L) (.tail 0 (length (List.take k L)))) ⟨[(.cells [(.vec 5 (L) .none)]),(.cells [(.val (.int .i64 (i))),(.val (.int .u32 (a))),(.val (.int .i64 (c)))])],[((length (List.take k L)),(5,false))]⟩∧
 (((@Eq (Option TV) (.some (.vec 5 (L) .none)) (.some (.vec 5 (L) .none)))∧
 ((@Eq (Option TV) (.some (.agg [(.val (.int .i64 (i))),(.val (.int .u32 (a))),(.val (.int .i64 (c)))])) (.some (.agg [(.val (.int .i64 (i))),(.val (.int .u32 (a))),(.val (.int .i64 (c)))])))∧
 ((@Eq (Option TV) (.some (.vec 5 (L) .none)) (.some (.vec 5 (L) .none)))∧
 True)))∧
 (aM prog (λ_=>.none) 0 ⟨[(.cells [(.vec 5 (L) .none)]),(.cells [(.val (.int .i64 (i))),(.val (.int .u32 (a))),(.val (.int .i64 (c)))])],[((length (List.take k L)),(5,false))]⟩ (.call ⟨(.builtin .append),#[(.tmp 74),(.tmp 77)],#[78,78]⟩) [(74,(.vec 5 (List.take k L) (.tail 0 (length (List.take k L))))),(77,(.vec 5 [[(.val (.int .i64 (i))),(.val (.int .u32 (a))),(.val (.int .i64 (c))),(.val (.int .i64 0)),(.val (.int .i64 0))]] .full))] (.vec 5 (List.take k L++ [pL i a c (0:Int) (0:Int)]) (.tail 0 (length (List.take k L)+(1:Nat)))) ⟨[(.cells [(.vec 5 (L) .none)]),(.cells [(.val (.int .i64 (i))),(.val (.int .u32 (a))),(.val (.int .i64 (c)))])],[((length (List.take k L)+(1:Nat)),(5,false))]⟩∧
 (((@Eq (Option TV) (.some (.vec 5 (L) .none)) (.some (.vec 5 (L) .none)))∧
 ((@Eq (Option TV) (.some (.agg [(.val (.int .i64 (i))),(.val (.int .u32 (a))),(.val (.int .i64 (c)))])) (.some (.agg [(.val (.int .i64 (i))),(.val (.int .u32 (a))),(.val (.int .i64 (c)))])))∧
 ((@Eq (Option TV) (.some (.vec 5 (L) .none)) (.some (.vec 5 (L) .none)))∧
 True)))∧
 (aM prog (λ_=>.none) 0 ⟨[(.cells [(.vec 5 (L) .none)]),(.cells [(.val (.int .i64 (i))),(.val (.int .u32 (a))),(.val (.int .i64 (c)))])],[((length (List.take k L)+(1:Nat)),(5,false))]⟩ (.call ⟨(.builtin .append),#[(.tmp 78),(.tmp 84)],#[78,78]⟩) [(78,(.vec 5 (List.take k L++ [pL i a c (0:Int) (0:Int)]) (.tail 0 (length (List.take k L)+(1:Nat))))),(84,(.vec 5 (drop k L) .none))] (.vec 5 (List.take k L++ [pL i a c (0:Int) (0:Int)]++drop k L) (.tail 0 (length (List.take k L)+(1:Nat)+length (drop k L)))) ⟨[(.cells [(.vec 5 (L) .none)]),(.cells [(.val (.int .i64 (i))),(.val (.int .u32 (a))),(.val (.int .i64 (c)))])],[((length (List.take k L)+(1:Nat)+length (drop k L)),(5,false))]⟩∧
 Q (.val (.int .i64 0)) ⟨[(.cells [(.vec 5 (List.take k L++ [pL i a c (0:Int) (0:Int)]++drop k L) (.tail 0 (length (List.take k L)+(1:Nat)+length (drop k L))))]),(.cells [(.val (.int .i64 (i))),(.val (.int .u32 (a))),(.val (.int .i64 (c)))])],[((length (List.take k L)+(1:Nat)+length (drop k L)),(5,false))]⟩))))))))))))))))):=by kernel_rfl
theorem DI (L:List (List TV))(i a c i' a' c' p' u':Int)(j:Nat)(Q:Exit→List TV→VT→List Nat→Nat→Prop):vx prog ae cT (bp [(999998,.dead,none),(56,.elt (pL i' a' c' p' u'),none)]) 300 bo none 0 (dj prog lG 1) (ay 88 DF (DG j)) (mL L [.cells (dd i a c)]) [] (dm DF Q)=
 (bif decide ((↑j:Int)<(↑(length L):Int))
 then (aJ prog (λ_=>.none) (.indexAddr 78 (.tmp 54) (.tmp 55)) [(54,(.vec 5 (L) .none)),(55,(.val (.int .i64 ((↑j:Int)))))] (.elt [(.val (.int .i64 (i'))),(.val (.int .u32 (a'))),(.val (.int .i64 (c'))),(.val (.int .i64 (p'))),(.val (.int .i64 (u')))])∧
 (bif decide (i' <i)
 then Q .normal [(.ptr 0 0),(.ptr 1 0),(.val (.int .i64 (wrap i64 ((↑j:Int)+(1:Int)))))] ⟨[(.cells [(.vec 5 (L) .none)]),(.cells [(.val (.int .i64 (i))),(.val (.int .u32 (a))),(.val (.int .i64 (c)))])],[]⟩ [] 88
 else Q (.exit 1) [(.ptr 0 0),(.ptr 1 0),(.val (.int .i64 ((↑j:Int))))] ⟨[(.cells [(.vec 5 (L) .none)]),(.cells [(.val (.int .i64 (i))),(.val (.int .u32 (a))),(.val (.int .i64 (c)))])],[]⟩ [] 88))
 else Q (.exit 1) [(.ptr 0 0),(.ptr 1 0),(.val (.int .i64 ((↑j:Int))))] ⟨[(.cells [(.vec 5 (L) .none)]),(.cells [(.val (.int .i64 (i))),(.val (.int .u32 (a))),(.val (.int .i64 (c)))])],[]⟩ [] 88):=by kernel_rfl
theorem yL (L:List (List TV))(i c u r:Int)(k:Nat)(Q:TV→VT→Prop):aH prog ae (az [(j6,Gk L i r)]) (bp [(999998,.dead,none),(37,.row 5 1 0 L.length,some λT=>T.newRow L.flatten),(52,.ptr 1 (k*5),none),(54,.ptr 1 (k*5),none),(53,.ptr 1 (k*5+3),none),(55,.ptr 1 (k*5+4),none),(500053,.val undef,some λT=>{T with objs:=T.objs.set 1 (.row (aV L.flatten (k*5+3) [.val (.int .i64 c)]))}),(500055,.val undef,some λT=>{T with objs:=T.objs.set 1 (.row (aV (aV L.flatten (k*5+3) [.val (.int .i64 c)]) (k*5+4) [.val (.int .i64 u)]))})]) 300 bo 0 yK [.ptr 0 0,.val (.int .i64 i),.val (.int .i64 c),.val (.int .i64 u)] (mL L []) Q=
 (((@Eq (Nat) 0 0)∧
 ((@Eq (List TV) [(.ptr 0 0),(.val (.int .i64 (i)))] [(.ptr 0 0),(.val (.int .i64 (i)))])∧
 (@Eq (Option VO) (.some (.cells [(.vec 5 (L) .none)])) (.some (.cells [(.vec 5 (L) .none)])))))∧
 (bif decide (r<(0:Int))
 then Q (.val (.int .i64 7)) ⟨[(.cells [(.vec 5 (L) .none)])],[]⟩
 else (bif decide (c<(0:Int))
 then Q (.val (.int .i64 2)) ⟨[(.cells [(.vec 5 (L) .none)])],[]⟩
 else (bif decide (c>(1000000:Int))
 then Q (.val (.int .i64 2)) ⟨[(.cells [(.vec 5 (L) .none)])],[]⟩
 else (bif decide (u<(0:Int))
 then Q (.val (.int .i64 2)) ⟨[(.cells [(.vec 5 (L) .none)])],[]⟩
 else (bif decide (u>(1099511627776:Int))
 then Q (.val (.int .i64 2)) ⟨[(.cells [(.vec 5 (L) .none)])],[]⟩
 else (aM prog (λ_=>.none) 0 ⟨[(.cells [(.vec 5 (L) .none)])],[]⟩ (.call ⟨(.builtin .append),#[(.tmp 32),(.tmp 36)],#[78,78]⟩) [(32,(.vec 5 [] .full)),(36,(.vec 5 (L) .none))] (.row 5 1 0 (length L)) ⟨[(.cells [(.vec 5 (L) .none)]),(.row (flatten L))],[]⟩∧
 (aJ prog (λ_=>.none) (.indexAddr 78 (.tmp 43) (.tmp 44)) [(43,(.row 5 1 0 (length L))),(44,(.val (.int .i64 (r))))] (.ptr 1 (k*(5:Nat)))∧
 (aJ prog (λ_=>.none) (.fieldAddr 140 (.tmp 52) 1) [(52,(.ptr 1 (k*(5:Nat))))] (.ptr 1 (k*(5:Nat)+(3:Nat)))∧
 (aM prog (λ_=>.none) 0 ⟨[(.cells [(.row 5 1 0 (length L))]),(.row (flatten L))],[]⟩ (.store 3 (.tmp 53) (.tmp 50)) [(53,(.ptr 1 (k*(5:Nat)+(3:Nat)))),(50,(.val (.int .i64 (c))))] (.val (.tuple #[])) ⟨[(.cells [(.row 5 1 0 (length L))]),(.row (aV (flatten L) (k*(5:Nat)+(3:Nat)) [TV.val (Value.int i64 c)]))],[]⟩∧
 (aJ prog (λ_=>.none) (.indexAddr 78 (.tmp 48) (.tmp 49)) [(48,(.row 5 1 0 (length L))),(49,(.val (.int .i64 (r))))] (.ptr 1 (k*(5:Nat)))∧
 (aJ prog (λ_=>.none) (.fieldAddr 140 (.tmp 54) 2) [(54,(.ptr 1 (k*(5:Nat))))] (.ptr 1 (k*(5:Nat)+(4:Nat)))∧
 (aM prog (λ_=>.none) 0 ⟨[(.cells [(.row 5 1 0 (length L))]),(.row (aV (flatten L) (k*(5:Nat)+(3:Nat)) [TV.val (Value.int i64 c)]))],[]⟩ (.store 3 (.tmp 55) (.tmp 51)) [(55,(.ptr 1 (k*(5:Nat)+(4:Nat)))),(51,(.val (.int .i64 (u))))] (.val (.tuple #[])) ⟨[(.cells [(.row 5 1 0 (length L))]),(.row (aV (aV (flatten L) (k*(5:Nat)+(3:Nat)) [TV.val (Value.int i64 c)]) (k*(5:Nat)+(4:Nat)) [TV.val (Value.int i64 u)]))],[]⟩∧
 Q (.val (.int .i64 0)) ⟨[(.cells [(.row 5 1 0 (length L))]),(.row (aV (aV (flatten L) (k*(5:Nat)+(3:Nat)) [TV.val (Value.int i64 c)]) (k*(5:Nat)+(4:Nat)) [TV.val (Value.int i64 u)]))],[]⟩))))))))))))):=by kernel_rfl
section
open Go.RowKit Go.Maps Go.Sort
abbrev Rw:=aN × Int × Int
def aX (r:Rw):List TV:= [.val (.int .i64 r.1.1),.val (.int .u32 r.1.2.1),.val (.int .i64 r.1.2.2),.val (.int .i64 r.2.1),.val (.int .i64 r.2.2)]
def br (S:List aN)(R:cP):List Rw:=(bD S).map λs=>(s,lE R s.1)
structure lH (S:List aN) (R:cP):Prop where
 nd:(S.map (·.1)).Nodup
 few:S.length≤8
 gone:∀i,S.find? (λs=>s.1==i)=none→R i=none
def tF (a b:Rw):Prop:=a.1.1<b.1.1
theorem rj:∀{l m:List Rw},l.Pairwise tF→m.Pairwise tF→(∀x,x∈l ↔ x∈m)→l=m
 |[],[],_,_,_=>rfl
 |[],b::m,_,_,h=>by have:=(h b).2 (by simp);simp at this
 |a::l,[],_,_,h=>by have:=(h a).1 (by simp);simp at this
 |a::l,b::m,hl,hm,h=>by
  obtain ⟨hl1,hl2⟩:=pairwise_cons.1 hl
  obtain ⟨hm1,hm2⟩:=pairwise_cons.1 hm
  have e:a=b:=by
   rcases mem_cons.1 ((h a).1 (by simp)) with h1 | h1
   ·exact h1
   ·rcases mem_cons.1 ((h b).2 (by simp)) with h2 | h2
    ·exact h2.symm
    ·have:=hm1 a h1;have:=hl1 b h2;unfold tF at*;omega
  subst e
  congr 1
  refine rj hl2 hm2 λx=>⟨λhx=> ?_,λhx=> ?_⟩
  ·rcases mem_cons.1 ((h x).1 (mem_cons_of_mem _ hx)) with rfl | h1
   ·have:=hl1 x hx;unfold tF at this;omega
   ·exact h1
  ·rcases mem_cons.1 ((h x).2 (mem_cons_of_mem _ hx)) with rfl | h1
   ·have:=hm1 x hx;unfold tF at this;omega
   ·exact h1
theorem yM {S:List aN}(h:(S.map (·.1)).Nodup):(bW S).Pairwise (· < ·):=by
 have h1:=List.pairwise_mergeSort (le:=leI) (λa b c h1 h2=>by simp only [leI,decide_eq_true_eq] at*;omega) (λa b=>by simp only [leI,Bool.or_eq_true,decide_eq_true_eq];omega) (S.map (·.1))
 have h2:(bW S).Nodup:=by unfold bW;exact (List.mergeSort_perm (S.map λs:aN=>s.1) leI).nodup_iff.2 h
 refine List.Pairwise.imp₂ (S:=λa b=>a≠b) (λa b h1 h2=> ?_) h1 h2
 simp only [leI,decide_eq_true_eq] at h1
 omega
theorem Ah {S:List aN}{z:Int}(h:z∈S.map (·.1)):ew S z∈S∧(ew S z).1=z:=by
 obtain ⟨s0,hs0,he⟩:=mem_map.1 h
 unfold ew
 cases hf:S.find? λs=>s.1==z with
 |none=>
  have:=find?_eq_none.1 hf s0 hs0
  simp [he] at this
 |some s=>exact ⟨List.mem_of_find?_eq_some hf,by simpa using List.find?_some hf⟩
theorem r7 (S:List aN):bD S=(bW S).map (ew S):=rfl
theorem pM {S:List aN}{z:Int}:z∈bW S ↔ z∈S.map (·.1):=(List.mergeSort_perm (S.map (·.1)) leI).mem_iff
theorem yN:∀{S:List aN} {s:aN},(S.map (·.1)).Nodup→s∈S→S.find? (λt=>t.1==s.1)=some s
 |[],_,_,h=>by simp at h
 |t::S,s,hd,h=>by
  obtain ⟨h1,h2⟩:=List.nodup_cons.1 (show (t.1::S.map λs:aN=>s.1).Nodup from hd)
  rw [List.find?_cons]
  rcases mem_cons.1 h with rfl | h
  ·simp
  ·have:(t.1==s.1)=false:=by
    rw [beq_eq_false_iff_ne]
    intro e
    exact h1 (by rw [e];exact List.mem_map_of_mem h)
   rw [this]
   exact yN h2 h
theorem yO {S:List aN}(hd:(S.map (·.1)).Nodup){s:aN}:s∈bD S ↔ s∈S:=by
 constructor
 ·exact λh=>(rU h).1
 ·intro h
  rw [r7]
  refine mem_map.2 ⟨s.1,pM.2 (List.mem_map_of_mem h),?_⟩
  unfold ew
  rw [yN hd h];rfl
theorem zi {S:List aN}(hd:(S.map (·.1)).Nodup):(bD S).Pairwise λa b=>a.1<b.1:=by
 rw [r7,List.pairwise_map]
 refine List.Pairwise.imp_of_mem (λ{a b} ha hb hab=> ?_) (yM hd)
 rw [(Ah (pM.1 ha)).2,(Ah (pM.1 hb)).2]
 exact hab
theorem mH {S:List aN}(hd:(S.map (·.1)).Nodup)(R:cP):(br S R).Pairwise tF:=by
 unfold br
 rw [List.pairwise_map]
 exact zi hd
theorem iy {S:List aN}(hd:(S.map (·.1)).Nodup){R:cP}{r:Rw}:r∈br S R ↔ r.1∈S∧r.2=lE R r.1.1:=by
 unfold br
 rw [mem_map]
 constructor
 ·rintro ⟨s,hs,rfl⟩
  exact ⟨(yO hd).1 hs,rfl⟩
 ·rintro ⟨h1,h2⟩
  exact ⟨r.1,(yO hd).2 h1,by rw [←h2]⟩
theorem yP {S:List aN}(R:cP):(br S R).length=S.length:=by
 unfold br;rw [length_map,r7,length_map,mc]
def ke (L:List Rw)(i:Int):Option Nat:=L.findIdx? λr=>r.1.1==i
theorem r8 {L:List Rw}{i:Int}{k:Nat}(h:ke L i=some k):∃r,L[k]?=some r∧r.1.1=i∧∀j r',j<k→L[j]?=some r'→r'.1.1≠i:=by
 unfold ke at h
 obtain ⟨hk,h1,h2⟩:=List.findIdx?_eq_some_iff_getElem.1 h
 refine ⟨L[k],getElem?_eq_getElem hk,by simpa using h1,λj r' hj hr=> ?_⟩
 have:=h2 j hj
 obtain ⟨hj2,rfl⟩:=List.getElem?_eq_some_iff.1 hr
 simpa using this
theorem Fr {L:List Rw}{i:Int}(h:ke L i=none):∀r∈L,r.1.1≠i:=λr hr=>by
 have:=List.findIdx?_eq_none_iff.1 h r hr
 simpa using this
theorem Ai {S:List aN}(hd:(S.map (·.1)).Nodup){R:cP}{i:Int}:(ke (br S R) i).isSome=eQ S i:=by
 unfold eQ
 cases hf:ke (br S R) i with
 |none=>
  have h1:=Fr hf
  cases hs:S.find? λs=>s.1==i with
  |none=>rfl
  |some s=>
   have h2:=List.mem_of_find?_eq_some hs
   have h3:s.1=i:=by simpa using List.find?_some hs
   exact absurd h3 (h1 (s,lE R s.1) ((iy hd).2 ⟨h2,rfl⟩))
 |some k=>
  obtain ⟨r,h1,h2,_⟩:=r8 hf
  have h3:=((iy hd).1 (List.mem_of_getElem? h1)).1
  cases hs:S.find? λs=>s.1==i with
  |none=>
   have:=find?_eq_none.1 hs r.1 h3
   simp [h2] at this
  |some s=>rfl
theorem DJ {p:Rw→Bool}{r:Rw}:∀{l:List Rw},r∈l.takeWhile p→p r=true
 |[],h=>by simp at h
 |a::l,h=>by
  rw [takeWhile_cons] at h
  split at h
  ·rename_i ha
   rcases mem_cons.1 h with rfl | h
   ·exact ha
   ·exact DJ h
  ·simp at h
theorem DK {p:Rw→Bool}:∀{l:List Rw},(∀r∈l,p r=true)→l.takeWhile p=l
 |[],_=>rfl
 |a::l,h=>by
  rw [takeWhile_cons,if_pos (h a mem_cons_self),DK λr hr=>h r (mem_cons_of_mem _ hr)]
def kA (L:List Rw)(i:Int):Nat:=(L.takeWhile λr=>decide (r.1.1<i)).length
theorem K7 (L:List Rw)(i:Int):kA L i≤L.length:=(List.takeWhile_sublist _).length_le
theorem Aj:∀(L:List Rw) (i:Int),L.take (kA L i)=L.takeWhile λr=>decide (r.1.1<i)
 |[],_=>rfl
 |a::L,i=>by
  unfold kA
  rw [takeWhile_cons]
  split
  ·rw [length_cons,take_succ_cons]
   exact congrArg (List.cons a) (Aj L i)
  ·rfl
theorem Gl {L:List Rw}{i:Int}:∀r∈L.take (kA L i),r.1.1<i:=λr hr=>by
 rw [Aj] at hr
 have:=DJ hr
 simpa using this
theorem Gm:∀{L:List Rw} {i:Int},L.Pairwise tF→∀r∈L.drop (kA L i),i≤r.1.1
 |[],_,_,r,hr=>by simp at hr
 |a::L,i,hp,r,hr=>by
  obtain ⟨h1,h2⟩:=pairwise_cons.1 hp
  unfold kA at hr
  rw [takeWhile_cons] at hr
  split at hr
  ·rw [length_cons,List.drop_succ_cons] at hr
   exact Gm h2 r hr
  ·rename_i hc
   have hc:¬a.1.1<i:=by simpa using hc
   rw [length_nil,List.drop_zero] at hr
   rcases mem_cons.1 hr with rfl | hr
   ·omega
   ·have:=h1 r hr;unfold tF at this;omega
theorem Hu {L:List Rw}{i:Int}{j:Nat}{r:Rw}(h:L[j]?=some r)(hj:∀k r',k<j→L[k]?=some r'→r'.1.1<i)(hr:¬r.1.1<i):kA L i=j:=by
 rcases Nat.lt_trichotomy (kA L i) j with h1 | h1 | h1
 ·obtain ⟨hjl,_⟩:=List.getElem?_eq_some_iff.1 h
  have hk:kA L i<L.length:=by omega
  have h2:=hj _ _ h1 (getElem?_eq_getElem hk)
  exfalso
  --the row at kA is not below i
  have:∀(L:List Rw) (hk:kA L i<L.length),¬(L[kA L i]'hk).1.1<i:=by
   intro L
   induction L with
   |nil=>intro hk;simp at hk
   |cons a L ih=>
    intro hk hlt
    have e:kA (a::L) i=if a.1.1<i then kA L i+1 else 0:=by
     unfold kA
     rw [takeWhile_cons]
     by_cases c:a.1.1<i
     ·simp [c]
     ·simp [c]
    by_cases c:a.1.1<i
    ·simp only [e,if_pos c,List.getElem_cons_succ,length_cons] at hk hlt
     exact ih (by omega) hlt
    ·simp only [e,if_neg c,List.getElem_cons_zero] at hlt
     exact c hlt
  exact this L hk h2
 ·exact h1
 ·have h2:r∈L.take (kA L i):=List.mem_of_getElem? (by rw [List.getElem?_take,if_pos h1];exact h)
  exact absurd (Gl r h2) hr
theorem Jw {L:List Rw}{i:Int}(h:∀k r',k<L.length→L[k]?=some r'→r'.1.1<i):kA L i=L.length:=by
 unfold kA
 rw [DK]
 intro r hr
 obtain ⟨k,hk,rfl⟩:=List.getElem_of_mem hr
 simpa using h k _ hk (getElem?_eq_getElem hk)
theorem Fs {S:List aN}{R:cP}(g:lH S R){t:aN}(hn:S.find? (λs=>s.1==t.1)=none):
  br (S++ [t]) R=(br S R).take (kA (br S R) t.1)++ [(t,0,0)]++(br S R).drop (kA (br S R) t.1):=by
 have hne:∀s∈S,s.1≠t.1:=λs hs=>by have:=find?_eq_none.1 hn s hs;simpa using this
 have hd2:((S++ [t]).map (·.1)).Nodup:=by
  rw [map_append]
  refine List.nodup_append.2 ⟨g.nd,by simp,λa ha b hb e=> ?_⟩
  obtain ⟨s,hs,rfl⟩:=mem_map.1 ha
  exact hne s hs (e.trans (by simpa using hb))
 have hs:=mH g.nd R
 have hge:=Gm (i:=t.1) hs
 have hlt:=Gl (L:=br S R) (i:=t.1)
 have h0:lE R t.1=(0,0):=by unfold lE;rw [g.gone t.1 hn];rfl
 have hmem:∀x,x∈br S R ↔ x∈(br S R).take (kA (br S R) t.1)∨x∈(br S R).drop (kA (br S R) t.1):=λx=>by
  rw [←mem_append,List.take_append_drop]
 refine rj (mH hd2 R) ?_ λx=> ?_
 ·rw [append_assoc,List.pairwise_append]
  refine ⟨hs.sublist (List.take_sublist _ _),?_,?_⟩
  ·rw [List.singleton_append,pairwise_cons]
   refine ⟨λr hr=> ?_,hs.sublist (List.drop_sublist _ _)⟩
   have h1:=hge r hr
   have h2:=hne r.1 ((iy g.nd).1 (List.mem_of_mem_drop hr)).1
   show t.1<r.1.1
   omega
  ·intro a ha b hb
   have h1:=hlt a ha
   rcases mem_append.1 hb with hb | hb
   ·rw [mem_singleton.1 hb];exact h1
   ·have:=hge b hb
    show a.1.1<b.1.1
    omega
 ·rw [iy hd2]
  simp only [mem_append,mem_singleton]
  constructor
  ·rintro ⟨h1 | h1,h2⟩
   ·have:=(hmem x).1 ((iy g.nd).2 ⟨h1,h2⟩)
    rcases this with h | h
    ·exact .inl (.inl h)
    ·exact .inr h
   ·refine .inl (.inr ?_)
    rw [h1,h0] at h2
    exact Prod.ext h1 h2
  ·rintro ((h | h) | h)
   ·obtain ⟨h1,h2⟩:=(iy g.nd).1 ((hmem x).2 (.inl h));exact ⟨.inl h1,h2⟩
   ·subst h;exact ⟨.inr rfl,h0.symm⟩
   ·obtain ⟨h1,h2⟩:=(iy g.nd).1 ((hmem x).2 (.inr h));exact ⟨.inl h1,h2⟩
theorem Ft {S:List aN}{R:cP}(g:lH S R){i:Int}{k:Nat}{r:Rw}(hk:ke (br S R) i=some k)(hr:(br S R)[k]?=some r)(p:Int × Int):
  br S (j5 i p R)=(br S R).set k (r.1,p):=by
 obtain ⟨r',h1,h2,h3⟩:=r8 hk
 rw [hr] at h1;injection h1 with h1;subst h1
 have hs:=mH g.nd R
 apply ext_getElem?
 intro j
 rw [getElem?_set]
 have hl:k<(br S R).length:=(List.getElem?_eq_some_iff.1 hr).1
 have e1:(br S (j5 i p R))[j]?=(bD S)[j]?.map λs:aN=>(s,lE (j5 i p R) s.1):=by unfold br;rw [getElem?_map]
 have e2:∀j:Nat,(br S R)[j]?=(bD S)[j]?.map λs:aN=>(s,lE R s.1):=λj=>by unfold br;rw [getElem?_map]
 rw [e1]
 cases hb:(bD S)[j]? with
 |none=>
  have hn:(br S R)[j]?=none:=by rw [e2,hb];rfl
  have:(br S R).length≤j:=List.getElem?_eq_none_iff.1 hn
  rw [if_neg (by omega),hn];rfl
 |some s=>
  have hj:(br S R)[j]?=some (s,lE R s.1):=by rw [e2,hb];rfl
  simp only [map_some]
  by_cases hkj:k=j
  ·subst hkj
   rw [if_pos rfl,if_pos hl]
   rw [hr] at hj;injection hj with hj
   have:r.1=s:=by rw [hj]
   rw [this] at h2 ⊢
   have:lE (j5 i p R) s.1=p:=by simp [lE,j5,h2]
   rw [this]
  ·rw [if_neg hkj,hj]
   have hne:s.1≠i:=by
    intro e
    have hjl:=(List.getElem?_eq_some_iff.1 hj).1
    rcases lt_or_ge j k with h | h
    ·exact h3 j _ h hj e
    ·have hp:=List.pairwise_iff_getElem.1 hs k j hl hjl (by omega)
     rw [(List.getElem?_eq_some_iff.1 hr).2,(List.getElem?_eq_some_iff.1 hj).2] at hp
     unfold tF at hp
     simp only [e,h2] at hp
     omega
   have:(i==s.1)=false:=by rw [beq_eq_false_iff_ne];exact λe=>hne e.symm
   simp only [lE,j5,this,cond_false]
end
set_option maxRecDepth 100000
section
open Go.RowKit Go.Maps Go.Sort
theorem lI (f g:Nat→Option Nat):∀l:List Rw,bL f g (l.map aX)=l.map aX
 |[]=>rfl
 |a::l=>by simp only [map_cons,bL,lI f g l];rfl
theorem tG (f g:Nat→Option Nat)(l:List Rw):VO.ren f g (mO (l.map aX))=mO (l.map aX):=by
 simp only [mO,VO.ren,av,TV.ren,lI,Tok.ren]
theorem iL:∃inf:TypeInfo,prog.info? 140=some inf∧inf.size=5∧inf.bytes+1≤1000∧inf.zero=some (.agg #[.int .i64 0,.int .u32 0,.int .i64 0,.int .i64 0,.int .i64 0]):=
 ⟨(prog.info? 140).getD default,by kernel_rfl,by kernel_rfl,Nat.le_of_ble_eq_true (by kernel_rfl),by kernel_rfl⟩
theorem v7 {x i:Operand}{l:List (Nat × TV)}{L:List (List TV)}{tok:Tok}{k:IntKind}{z:Int}{e:List TV}(hx:aq ae l x=.vec 5 L tok)(hz:aq ae l i=.val (.int k z))(h0:0≤z)(he:L[z.toNat]?=some e):
  aJ prog ae (.indexAddr 78 x i) l (.elt e):=by
 obtain ⟨inf,i_at,i_size,_,_⟩:=iL
 exact dN (inf:=inf) underlying78 i_at (by rw [i_size];exact hx) hz h0 he
theorem DL {x i:Operand}{l:List (Nat × TV)}{es:List (List TV)}{tok:Tok}{k:IntKind}{z:Int}{n:Nat}(hx:aq ae l x=.vec 5 es tok)(hz:aq ae l i=.val (.int k z))(h0:0≤z)(hn:z.toNat=n)(he:n≤es.length):aJ prog ae (.slice 78 x none (some i) none) l (.vec 5 (es.take n) .none):=by
 subst hn
 obtain ⟨inf,i1,i2,_,_⟩:=iL
 have h:=rK (inf:=inf) (P:=prog) (G:=ae) (x:=x) (i:=i) (l:=l) (es:=es) (tok:=tok) underlying78 i1 (by rw [i2];exact hx) hz h0 he
 rw [i2] at h
 exact h
theorem DM {x i:Operand}{l:List (Nat × TV)}{es:List (List TV)}{tok:Tok}{k:IntKind}{z:Int}{n:Nat}(hx:aq ae l x=.vec 5 es tok)(hz:aq ae l i=.val (.int k z))(h0:0≤z)(hn:z.toNat=n)(he:n≤es.length):aJ prog ae (.slice 78 x (some i) none none) l (.vec 5 (es.drop n) tok):=by
 subst hn
 obtain ⟨inf,i1,i2,_,_⟩:=iL
 have h:=rL (inf:=inf) (P:=prog) (G:=ae) (x:=x) (i:=i) (l:=l) (es:=es) (tok:=tok) underlying78 i1 (by rw [i2];exact hx) hz h0 he
 rw [i2] at h
 exact h
theorem pN {T T1:VT}{s x:Operand}{l:List (Nat × TV)}{es es2:List (List TV)}{k n:Nat}{bn:Bool}(hs:cw T 5 (aq ae l s)=some (es,k,n,bn,T1))(hx:gL 5 (aq ae l x)=some es2)(hb:es.length+es2.length≤3000):
    aM prog ae 0 T (.call ⟨.builtin .append,#[s,x],#[78,78]⟩) l (.vec 5 (es++es2) (.tail k (n+es2.length))) {T1 with tails:=T1.tails.set k (n+es2.length,5,bn)}:=by
  obtain ⟨inf,i1,i2,i3,i4⟩:=iL
  have h:=iG (inf:=inf) (P:=prog) (G:=ae) (ro:=0) (T:=T) (T1:=T1) (t:=78) (tx:=78) (s:=s) (x:=x) (l:=l) (es:=es) (es2:=es2) (k:=k) (n:=n) (bn:=bn) underlying78 i1 i4 (by rw [i2];rfl) (by rw [i2];decide) (by kernel_rfl) (by rw [i2];exact hs) (by rw [i2];exact hx)
    (by have h1:=i3
        have h2:=Nat.mul_le_mul hb h1
        omega)
  rw [i2] at h
  exact h
def jU (L:List Rw)(i:Int):Int:=match ke L i with
 |some k=>k
 |none=>-1
theorem Jx {L:List Rw}{i:Int}{j:Nat}{r:Rw}(h:L[j]?=some r)(hr:r.1.1=i)(hj:∀k r',k<j→L[k]?=some r'→r'.1.1≠i):ke L i=some j:=by
 obtain ⟨hjl,h1⟩:=List.getElem?_eq_some_iff.1 h
 refine List.findIdx?_eq_some_iff_getElem.2 ⟨hjl,by simp [h1,hr],λk hk=> ?_⟩
 have:=hj k _ hk (getElem?_eq_getElem (by omega))
 simpa using this
theorem Hv {L:List Rw}{i:Int}(hj:∀k r',k<L.length→L[k]?=some r'→r'.1.1≠i):ke L i=none:=by
 refine List.findIdx?_eq_none_iff.2 λr hr=> ?_
 obtain ⟨k,hk,rfl⟩:=List.getElem_of_mem hr
 simpa using hj k _ hk (getElem?_eq_getElem hk)
theorem nj (L:List Rw)(l:List VO):VT.keep (mL (L.map aX) l) 1 0=mL (L.map aX) []:=by
 have e1:=tG (ai 1) (ai 0) L
 simp only [VT.keep,mL,take_succ_cons,take_zero,map_cons,map_nil,e1]
theorem Jy (L:List Rw)(hl:L.length≤1000)(i:Int):VCx prog ae 0 j6 [.ptr 0 0,.val (.int .i64 i)] (mL (L.map aX) []) λx T'=>x=.val (.int .i64 (jU L i))∧T'=mL (L.map aX) []:=by
 have hloop:ek prog ae (LT (L.map aX) i (jU L i) (ke L i).isSome (ax prog j6 0)):=cq λp hp=>by
  obtain rfl:=mem_singleton.1 hp
  refine dA λK hK=> ?_
  let sl:Nat→List TV:=λj=>v6 (L.map aX) i 0 j
  let Post:Exit→List TV→VT→Prop:=λe vs T=>(∃k:Nat,∃cs,ke L i=some k∧e=.ret∧vs=v6 (L.map aX) i k k∧T=mL (L.map aX) [.cells cs])∨(ke L i=none∧e=.normal∧vs=sl L.length∧T=mL (L.map aX) [])
  refine fv (f:=j6) (id:=0) (by kernel_rfl) 24 Ag (λj=>L.length-j) sl (λ_=>mL (L.map aX) []) (λj=>j≤L.length∧∀k r',k<j→L[k]?=some r'→r'.1.1≠i) 1 0 (λ_ _=>⟨le_refl _,le_refl _⟩)
   Post (λj hj=> ?_) 0 ⟨zero_le _,λk _ hk=>absurd hk (not_lt_zero k)⟩ K (λe vs T hq=> ?_)
  ·obtain ⟨hj,hne⟩:=hj
   by_cases hlt:j<L.length
   ·have hs:L[j]?=some L[j]:=getElem?_eq_getElem hlt
    generalize L[j]=r at hs
    have hw:=fV j (by omega)
    refine cn ah ag aw ak (DH (L.map aX) i 0 r.1.1 r.1.2.1 r.1.2.2 r.2.1 r.2.2 j _) ?_
    refine aZ (decide_eq_true (by rw [length_map];omega)) ⟨v7 rfl rfl (natCast_nonneg _) (by simp only [toNat_natCast];rw [getElem?_map,hs];rfl),?_⟩
    by_cases he:r.1.1=i
    ·refine aZ (by rw [q9];exact decide_eq_true he) ⟨rfl,rfl,.inl ⟨j,_,Jx hs he hne,rfl,rfl,rfl⟩⟩
    ·refine aA (by rw [q9];exact decide_eq_false he) ⟨rfl,rfl,j+1,⟨hlt,λk r' hk hr=> ?_⟩,by simp only;omega,.inr ⟨nj L _,?_⟩⟩
     ·rcases lt_or_ge k j with h | h
      ·exact hne k r' h hr
      ·obtain rfl:k=j:=by omega
       rw [hs] at hr;injection hr with hr;subst hr;exact he
     ·simp only [av,TV.ren,lI,Tok.ren]
      simp only [sl,v6,hw]
   ·obtain rfl:j=L.length:=by omega
    refine cn ah ag aw ak (DH (L.map aX) i 0 0 0 0 0 0 L.length _) ?_
    exact aA (decide_eq_false (by rw [length_map];omega)) ⟨rfl,rfl,.inr ⟨Hv hne,rfl,rfl,rfl⟩⟩
  ·rcases hq with ⟨k,cs,h1,rfl,rfl,rfl⟩ | ⟨h1,rfl,rfl,rfl⟩
   ·simp only [h1,isSome_some,cond_true,jU] at hK
    exact hK cs
   ·simp only [h1,isSome_none,cond_false] at hK
    have e1:sl L.length=v6 (L.map aX) i 0 (L.map aX).length:=by simp only [sl,length_map]
    rw [e1]
    exact hK
 refine VCx.keepQ 1 0 (le_refl _) (le_refl _) (ap ah ag aw hloop (K5 (L.map aX) i (jU L i) (ke L i).isSome _) ?_)
 refine ⟨rfl,⟨rfl,rfl,rfl,trivial,rfl,rfl,rfl⟩,?_⟩
 cases h:ke L i with
 |none=>exact aA rfl ⟨by simp only [jU,h];rfl,nj L _⟩
 |some k=>exact aZ rfl λcs=>⟨by simp only [jU,h];rfl,nj L _⟩
theorem Jz {f:FuncId}{ys0 ys1:List TV}{x0:TV}{L:List Rw}{k:Nat}(hy:av (aj [k]) (aj []) ys0=ys1)(hx:∀f g,x0.ren f g=x0)(hv:VCx prog ae 0 f ys1 (mL (L.map aX) []) λx T'=>x=x0∧T'=mL (L.map aX) []){T:VT}(ho:T.objs[k]?=some (mO (L.map aX))){K:TV→VT→Prop}(hk:K x0 T):
  VCx prog ae 0 f ys0 T K:=by
 have hg:T.give [k] []=mL (L.map aX) []:=by
  have:=tG (aj [k]) (aj []) L
  simp only [VT.give,map_cons,map_nil,ho,getD_some,this,mL]
 refine (VCx.lift (xs:=ys1) [k] [] bg (by simp) nodup_nil (λj hj=> ?_) (by simp) (λ_ _=>zero_le _) hy (by rw [hg];exact hv) (λx T' hq=> ?_)).mono ?_
 ·obtain rfl:=mem_singleton.1 hj;exact ⟨_,ho,rfl⟩
 ·rw [hq.2];exact ⟨le_refl 1,zero_le _⟩
 ·rintro x T' ⟨y,T2,⟨rfl,rfl⟩,rfl,rfl⟩
  have hb:T.back [k] [] (mL (L.map aX) [])=T:=by
   have:=tG (an T.objs.length [k]) (an T.tails.length []) L
   simp only [VT.back,mL,map_cons,map_nil,this,aT,append_nil]
   have:T.objs.set k (mO (L.map aX))=T.objs:=by
    apply ext_getElem?
    intro j
    rw [getElem?_set]
    split
    ·rename_i h;subst h
     rw [if_pos (List.getElem?_eq_some_iff.1 ho).1,ho]
    ·rfl
   rw [this]
  rw [hb,hx]
  exact hk
theorem DN (L:List Rw)(hl:L.length≤1000)(i:Int):∀ro ys T K,Gk (L.map aX) i (jU L i) ro ys T K→VCx prog ae ro j6 ys T K:=by
 rintro ro ys T K ⟨⟨rfl,rfl,ho⟩,hk⟩
 exact Jz (k:=0) rfl (λ_ _=>rfl) (Jy L hl i) ho hk
theorem Hw (L:List Rw)(hl:L.length≤1000)(i a c:Int):ek prog ae (LU (L.map aX) i a c (kA L i) (ax prog lG 1)):=cq λp hp=>by
 obtain rfl:=mem_singleton.1 hp
 refine dA λK hK=> ?_
 let sl:Nat→List TV:=λj=>DG j
 let Post:Exit→List TV→VT→Prop:=λe vs T=>e=.normal∧vs=sl (kA L i)∧T=mL (L.map aX) [.cells (dd i a c)]
 refine fv (f:=lG) (id:=1) (by kernel_rfl) 88 DF (λj=>L.length-j) sl (λ_=>mL (L.map aX) [.cells (dd i a c)]) (λj=>j≤L.length∧∀k r',k<j→L[k]?=some r'→r'.1.1<i) 2 0 (λ_ _=>⟨le_refl _,le_refl _⟩)
  Post (λj hj=> ?_) 0 ⟨zero_le _,λk _ hk=>absurd hk (not_lt_zero k)⟩ K (λe vs T hq=> ?_)
 ·obtain ⟨hj,hne⟩:=hj
  by_cases hlt:j<L.length
  ·have hs:L[j]?=some L[j]:=getElem?_eq_getElem hlt
   generalize L[j]=r at hs
   have hw:=fV j (by omega)
   refine cn ah ag aw ak (DI (L.map aX) i a c r.1.1 r.1.2.1 r.1.2.2 r.2.1 r.2.2 j _) ?_
   refine aZ (decide_eq_true (by rw [length_map];omega)) ⟨v7 rfl rfl (natCast_nonneg _) (by simp only [toNat_natCast];rw [getElem?_map,hs];rfl),?_⟩
   by_cases he:r.1.1<i
   ·refine aZ (decide_eq_true he) ⟨rfl,rfl,j+1,⟨hlt,λk r' hk hr=> ?_⟩,by simp only;omega,.inl ⟨rfl,?_⟩⟩
    ·rcases lt_or_ge k j with h | h
     ·exact hne k r' h hr
     ·obtain rfl:k=j:=by omega
      rw [hs] at hr;injection hr with hr;subst hr;exact he
    ·simp only [sl,DG,hw]
   ·exact aA (decide_eq_false he) ⟨rfl,rfl,rfl,by simp only [sl];rw [Hu hs hne he];rfl,rfl⟩
  ·obtain rfl:j=L.length:=by omega
   refine cn ah ag aw ak (DI (L.map aX) i a c 0 0 0 0 0 L.length _) ?_
   exact aA (decide_eq_false (by rw [length_map];omega)) ⟨rfl,rfl,rfl,by simp only [sl];rw [Jw hne];rfl,rfl⟩
 ·obtain ⟨rfl,rfl,rfl⟩:=hq
  exact hK
theorem Hx {S:List aN}{R:cP}(g:lH S R)(t:aN):VCx prog ae 0 lG [.ptr 0 0,.agg (dd t.1 t.2.1 t.2.2)] ⟨[.cells [.vec 5 ((br S R).map aX) .none]],[]⟩ λx T'=>∃z mz,x=.val (.int .i64 z)∧T'=⟨[.cells [mz]],[]⟩∧z=fJ S t∧mz=.vec 5 ((br (jO S t) R).map aX) .none:=by
 obtain ⟨i,a,c⟩:=t
 have hlen:=yP (S:=S) R
 have hfew:=g.few
 have hhas:=Ai g.nd (R:=R) (i:=i)
 generalize hL:br S R=L at*
 refine VCx.keepQ 1 0 (le_refl _) (le_refl _) (ap ah ag (aE λp hp=>by obtain rfl:=mem_singleton.1 hp;exact DN L (by omega) i) (Hw L (by omega) i a c) (K6 (L.map aX) i a c (jU L i) (kA L i) _) ?_)
 have same:∀(z:Int) (l:List VO),z=fJ S (i,a,c)→z≠0→∃z' mz,TV.val (.int .i64 z)=.val (.int .i64 z')∧VT.keep ⟨.cells [.vec 5 (L.map aX) .none]::l,[]⟩ 1 0=⟨[.cells [mz]],[]⟩∧z'=fJ S (i,a,c)∧mz=.vec 5 ((br (jO S (i,a,c)) R).map aX) .none:=λz l hz h0=>by
  have hr:jO S (i,a,c)=S:=by
   unfold jO
   have:(fJ S (i,a,c)==0)=false:=by rw [←hz,beq_eq_false_iff_ne];exact h0
   rw [this,cond_false]
  exact ⟨z,_,rfl,nj L l,hz,by rw [hr,hL]⟩
 by_cases hc:0≤i∧i≤255∧a≠0∧0≤c∧c≤1000000
 ·have hc':=hc
  obtain ⟨c1,c2,c3,c4,c5⟩:=hc
  refine aA (decide_eq_false (by omega)) (aA (decide_eq_false (by omega)) (aA (by rw [q9];exact decide_eq_false c3) (aA (decide_eq_false (by omega)) (aA (decide_eq_false (by omega)) ⟨⟨rfl,rfl,rfl⟩,?_⟩))))
  cases hf:ke L i with
  |some k=>
   rw [hf] at hhas
   refine aZ (decide_eq_true (by simp only [jU,hf];omega)) (same 13 _ ?_ (by decide))
   simp only [fJ,←hhas,decide_eq_true hc',Bool.not_true,cond_false,isSome_some,cond_true]
  |none=>
   rw [hf] at hhas
   refine aA (decide_eq_false (by simp only [jU,hf];omega)) ?_
   have hb:eQ S i=false:=hhas.symm
   by_cases h8:8≤S.length
   ·refine aZ (decide_eq_true (by rw [length_map];omega)) (same 6 _ ?_ (by decide))
    simp only [fJ,hb,decide_eq_true hc',decide_eq_true h8,Bool.not_true,cond_false,cond_true]
   ·have ha:fJ S (i,a,c)=0:=by simp only [fJ,hb,decide_eq_true hc',decide_eq_false h8,Bool.not_true,cond_false]
    have hn:S.find? (λs=>s.1==i)=none:=by
     unfold eQ at hb
     cases hf:S.find? λs=>s.1==i with
     |none=>rfl
     |some s=>rw [hf] at hb;cases hb
    have hr:jO S (i,a,c)=S++ [(i,a,c)]:=by simp [jO,ha]
    have hadd:=Fs g (t:=(i,a,c)) hn
    rw [hL] at hadd
    have hkl:kA L i≤(L.map aX).length:=by rw [length_map];exact K7 L i
    have hm:(L.map aX).take (kA L i)++ [pL i a c 0 0]++(L.map aX).drop (kA L i)=(br (S++ [(i,a,c)]) R).map aX:=by
     rw [hadd]
     simp only [map_append,List.map_take,List.map_drop,map_cons,map_nil]
     rfl
    have b1:((L.map aX).take (kA L i)).length≤8:=by rw [length_take,length_map];omega
    have b2:((L.map aX).drop (kA L i)).length≤8:=by rw [length_drop,length_map];omega
    refine aA (decide_eq_false (by rw [length_map];omega)) ⟨rfl,⟨rfl,rfl,rfl,trivial,rfl,rfl,rfl⟩,DL rfl rfl (natCast_nonneg _) (toNat_natCast _) hkl,DM rfl rfl (natCast_nonneg _) (toNat_natCast _) hkl,?_,⟨rfl,rfl,rfl,trivial⟩,?_,⟨rfl,rfl,rfl,trivial⟩,?_,?_⟩
    ·have o:=pN (T:=mL (L.map aX) [.cells (dd i a c)]) (T1:={mL (L.map aX) [.cells (dd i a c)] with tails:= [(0,5,false)]}) (s:=.tmp 67) (x:=.tmp 73) (l:= [(67,.vec 5 [] .full),(73,.vec 5 ((L.map aX).take (kA L i)) .none)]) (es:= []) (es2:=(L.map aX).take (kA L i)) (k:=0) (n:=0) (bn:=false) rfl rfl (by simp only [length_nil];omega)
     simp only [zero_add] at o
     exact o
    ·exact pN (T:={mL (L.map aX) [.cells (dd i a c)] with tails:= [(((L.map aX).take (kA L i)).length,5,false)]}) (T1:={mL (L.map aX) [.cells (dd i a c)] with tails:= [(((L.map aX).take (kA L i)).length,5,false)]}) (es:=(L.map aX).take (kA L i)) (es2:= [pL i a c 0 0]) (k:=0) (n:=((L.map aX).take (kA L i)).length) (bn:=false) (by simp [aq,dU,cw,mL]) rfl (by simp only [length_cons,length_nil];omega)
    ·exact pN (T:={mL (L.map aX) [.cells (dd i a c)] with tails:= [(((L.map aX).take (kA L i)).length+1,5,false)]}) (T1:={mL (L.map aX) [.cells (dd i a c)] with tails:= [(((L.map aX).take (kA L i)).length+1,5,false)]}) (es:=(L.map aX).take (kA L i)++ [pL i a c 0 0]) (es2:=(L.map aX).drop (kA L i)) (k:=0) (n:=((L.map aX).take (kA L i)).length+1) (bn:=false) (by simp [aq,dU,cw,mL]) rfl (by simp only [length_append,length_cons,length_nil];omega)
    ·rw [hm]
     refine ⟨0,.vec 5 ((br (S++ [(i,a,c)]) R).map aX) .none,rfl,?_,ha.symm,by rw [hr]⟩
     simp only [VT.keep,take_succ_cons,take_zero,map_cons,map_nil,VO.ren,av,TV.ren,lI,Tok.ren,ai]
     rfl
 ·have ha:fJ S (i,a,c)=2:=by simp only [fJ,decide_eq_false hc,Bool.not_false,cond_true]
  by_cases c1:i<0
  ·exact aZ (decide_eq_true c1) (same 2 _ ha.symm (by decide))
  ·refine aA (decide_eq_false c1) ?_
   by_cases c2:i>255
   ·exact aZ (decide_eq_true c2) (same 2 _ ha.symm (by decide))
   ·refine aA (decide_eq_false c2) ?_
    by_cases c3:a=0
    ·exact aZ (by rw [q9];exact decide_eq_true c3) (same 2 _ ha.symm (by decide))
    ·refine aA (by rw [q9];exact decide_eq_false c3) ?_
     by_cases c4:c<0
     ·exact aZ (decide_eq_true c4) (same 2 _ ha.symm (by decide))
     ·refine aA (decide_eq_false c4) ?_
      by_cases c5:c>1000000
      ·exact aZ (decide_eq_true c5) (same 2 _ ha.symm (by decide))
      ·exact absurd ⟨by omega,by omega,c3,by omega,by omega⟩ hc
end
set_option maxRecDepth 100000
section
open Go.RowKit Go.Maps Go.Sort
theorem Ak (l:List Rw):∀e∈l.map aX,e.length=5:=λe he=>by obtain ⟨s,_,rfl⟩:=mem_map.1 he;rfl
theorem DO (c u:Int)(r:Rw):∀(m:List Rw) (k:Nat),m[k]?=some r→aV (aV (m.map aX).flatten (k*5+3) [.val (.int .i64 c)]) (k*5+4) [.val (.int .i64 u)]=((m.set k (r.1,(c,u))).map aX).flatten
 |[],k,h=>by simp at h
 |b::l,0,h=>by
  simp at h;subst h
  rfl
 |b::l,k+1,h=>by
  have ih:=DO c u r l k (by simpa using h)
  have e1:(k+1)*5+3=(k*5+3)+5:=by omega
  have e2:(k+1)*5+4=(k*5+4)+5:=by omega
  have h1:∀(l:List TV) (o:Nat) (x:TV),aV (aX b++l) (o+5) [x]=aX b++aV l o [x]:=λl o x=>by
   have e4:o+5+ [x].length=(o+ [x].length)+5:=Nat.add_right_comm _ _ _
   simp only [aV,aX,e4]
   first | done | rfl
  rw [e1,e2,List.set_cons_succ,map_cons,map_cons,List.flatten_cons,List.flatten_cons,h1,h1,ih]
theorem JA (L:List Rw)(hpos:0<L.length)(h:L.length≤8):aM prog ae 0 (mL (L.map aX) []) (.call ⟨.builtin .append,#[.tmp 32,.tmp 36],#[78,78]⟩) [(32,.vec 5 [] .full),(36,.vec 5 (L.map aX) .none)] (.row 5 1 0 (L.map aX).length) (mL (L.map aX) [.row (L.map aX).flatten]):=by
  obtain ⟨inf,i1,i2,i3,i4⟩:=iL
  match L,hpos,h with
  |b::r,_,h=>
    have a:=tg (inf:=inf) (P:=prog) (G:=ae) (ro:=0) (T:=mL ((b::r).map aX) []) (t:=78) (tx:=78) (s:=.tmp 32) (x:=.tmp 36) (l:= [(32,.vec 5 [] .full),(36,.vec 5 ((b::r).map aX) .none)]) (q0:=aX b) (qs:=r.map aX) (tok:=.none)
      underlying78 i1 i4 (by rw [i2];rfl) (by decide) (by kernel_rfl) (by rw [i2];rfl) (by rw [i2];rfl)
      (by have h2:=Nat.mul_le_mul (show (aX b::r.map aX).length≤8 by simpa using h) i3
          omega)
    rw [i2] at a
    exact a
theorem DP {x i:Operand}{n:Nat}{l:List (Nat × TV)}{k:Nat}{z:Int}(hx:aq ae l x=.row 5 1 0 n)(hz:aq ae l i=.val (.int .i64 z))(hzk:z=k)(h1:k<n):aJ prog ae (.indexAddr 78 x i) l (.ptr 1 (k*5)):=by
 subst hzk
 obtain ⟨inf,i1,i2,i3,i4⟩:=iL
 have a:=pn (inf:=inf) (P:=prog) (G:=ae) (x:=x) (i:=i) (l:=l) (id:=1) (off:=0) (n:=n) (k:=.i64) (z:=(k:Int)) underlying78 i1 (by rw [i2];exact hx) hz (natCast_nonneg _) (by omega)
 rw [i2] at a
 simpa using a
theorem DQ (cs:List TV)(o:Nat)(x:TV)(h:o+1≤cs.length):(aV cs o [x]).length=cs.length:=by
 simp only [aV,length_append,length_take,length_cons,length_nil,length_drop];omega
theorem Hy {S:List aN}{R:cP}(g:lH S R)(i c u:Int):VCx prog ae 0 yK [.ptr 0 0,.val (.int .i64 i),.val (.int .i64 c),.val (.int .i64 u)] ⟨[.cells [.vec 5 ((br S R).map aX) .none]],[]⟩ λx T'=>∃z mz,x=.val (.int .i64 z)∧T'=⟨[.cells [mz]],[]⟩∧z=hP S i c u∧mz=.vec 5 ((br S (lm S R i c u)).map aX) .none:=by
 have hlen:=yP (S:=S) R
 have hfew:=g.few
 have hhas:=Ai g.nd (R:=R) (i:=i)
 have hC:aQ prog ae (az [(j6,Gk ((br S R).map aX) i (jU (br S R) i))]):=aE λp hp=>by obtain rfl:=mem_singleton.1 hp;exact DN (br S R) (by omega) i
 have same:∀(z:Int) (l:List VO),z=hP S i c u→z≠0→∃z' mz,TV.val (.int .i64 z)=.val (.int .i64 z')∧VT.keep ⟨.cells [.vec 5 ((br S R).map aX) .none]::l,[]⟩ 1 0=⟨[.cells [mz]],[]⟩∧z'=hP S i c u∧mz=.vec 5 ((br S (lm S R i c u)).map aX) .none:=λz l hz h0=>by
  have hr:lm S R i c u=R:=by
   unfold lm
   have:(hP S i c u==0)=false:=by rw [←hz,beq_eq_false_iff_ne];exact h0
   rw [this,cond_false]
  exact ⟨z,_,rfl,nj _ l,hz,by rw [hr]⟩
 cases hf:ke (br S R) i with
 |none=>
  rw [hf] at hhas
  have hb:eQ S i=false:=hhas.symm
  have ha:hP S i c u=7:=by simp [hP,hb]
  refine VCx.keepQ 1 0 (le_refl _) (le_refl _) (ap ah ag hC ak (yL ((br S R).map aX) i c u (jU (br S R) i) 0 _) ?_)
  exact ⟨⟨rfl,rfl,rfl⟩,aZ (decide_eq_true (by simp only [jU,hf];omega)) (same 7 _ ha.symm (by decide))⟩
 |some k=>
  rw [hf] at hhas
  have hb:eQ S i=true:=hhas.symm
  have hfz:jU (br S R) i=k:=by simp only [jU,hf]
  obtain ⟨r,hr,_,_⟩:=r8 hf
  have hk:=(List.getElem?_eq_some_iff.1 hr).1
  by_cases hc:0≤c∧c≤1000000∧0≤u∧u≤1099511627776
  ·have ha:hP S i c u=0:=by simp [hP,hb,hc]
   have hrr:lm S R i c u=j5 i (c,u) R:=by simp [lm,ha]
   have hput:=Ft g hf hr (c,u)
   rw [hrr,hput,ha]
   generalize br S R=L at*
   have hfl:(L.map aX).flatten.length=L.length*5:=by
    have:=bs (Ak L)
    rwa [length_map] at this
   have hmul:(k+1)*5≤L.length*5:=Nat.mul_le_mul_right _ hk
   have hset:=DO c u r L k hr
   refine VCx.keepQ 1 0 (le_refl _) (le_refl _) (VCx.freezeCell (i:=0) (size:=5) (es:=(L.set k (r.1,(c,u))).map aX) (ap ah ag hC ak (yL (L.map aX) i c u (jU L i) k _) ?_))
   obtain ⟨c1,c2,c3,c4⟩:=hc
   refine ⟨⟨rfl,rfl,rfl⟩,aA (decide_eq_false (by rw [hfz];omega)) (aA (decide_eq_false (by omega)) (aA (decide_eq_false (by omega)) (aA (decide_eq_false (by omega)) (aA (decide_eq_false (by omega)) ⟨JA L (by omega) (by omega),DP rfl rfl hfz (by rw [length_map];exact hk),aJ.mk (by kernel_rfl),
    lf (cs:=(L.map aX).flatten) (new:= [.val (.int .i64 c)]) (off:=k*5+3) (id:=1) (inf:=(prog.info? 3).getD default) (by kernel_rfl) rfl rfl rfl (by kernel_rfl) (by rw [hfl];show k*5+3+1≤_;omega) rfl (zero_le _),
    DP rfl rfl hfz (by rw [length_map];exact hk),aJ.mk (by kernel_rfl),
    lf (cs:=aV (L.map aX).flatten (k*5+3) [.val (.int .i64 c)]) (new:= [.val (.int .i64 u)]) (off:=k*5+4) (id:=1) (inf:=(prog.info? 3).getD default) (by kernel_rfl) rfl rfl rfl (by kernel_rfl) (by rw [DQ _ _ _ (by rw [hfl];omega),hfl];show k*5+4+1≤_;omega) rfl (zero_le _),
    1,0,(L.map aX).length,rfl,?_,?_⟩))))⟩
   ·rw [hset]
    have hl:(L.map aX).length=((L.set k (r.1,(c,u))).map aX).length:=by simp
    rw [hl]
    exact kp rfl (Ak _)
   ·refine ⟨0,.vec 5 ((L.set k (r.1,(c,u))).map aX) .none,rfl,?_,rfl,rfl⟩
    simp only [VT.kill,VT.keep,List.set_cons_succ,List.set_cons_zero,take_succ_cons,take_zero,map_cons,map_nil,VO.ren,av,TV.ren,lI,Tok.ren]
  ·have ha:hP S i c u=2:=by simp only [hP,hb,Bool.not_true,cond_false,decide_eq_false hc]
   refine VCx.keepQ 1 0 (le_refl _) (le_refl _) (ap ah ag hC ak (yL ((br S R).map aX) i c u (jU (br S R) i) 0 _) ?_)
   refine ⟨⟨rfl,rfl,rfl⟩,aA (decide_eq_false (by rw [hfz];omega)) ?_⟩
   by_cases c1:c<0
   ·exact aZ (decide_eq_true c1) (same 2 _ ha.symm (by decide))
   ·refine aA (decide_eq_false c1) ?_
    by_cases c2:c>1000000
    ·exact aZ (decide_eq_true c2) (same 2 _ ha.symm (by decide))
    ·refine aA (decide_eq_false c2) ?_
     by_cases c3:u<0
     ·exact aZ (decide_eq_true c3) (same 2 _ ha.symm (by decide))
     ·refine aA (decide_eq_false c3) ?_
      by_cases c4:u>1099511627776
      ·exact aZ (decide_eq_true c4) (same 2 _ ha.symm (by decide))
      ·exact absurd ⟨by omega,by omega,by omega,by omega⟩ hc
end
abbrev eR:=7
abbrev DR:=23
abbrev DS:=26
structure Wd where
 pc:Int
 B:Bs
 U:Bs
 D:Bs
 S:Bs
 C:Bs
 F:Bs
 W:Bs
def Wd.cells (w:Wd):List TV:= [.val (.int .i64 w.pc),.vec 3 w.B .none,.vec 1 w.U .none,.vec 1 w.D .none,.vec 3 w.S .none,.vec 1 w.C .none,.vec 5 w.F .none,.vec 1 w.W .none]
def uP:TV:=.val (.pointer none)
def bO:VO:=.cells [.ptr 6 0,.ptr 8 0,.ptr 11 0,.ptr 12 0,.ptr 13 0,.ptr 14 0]
def fk (o:Nat→VO)(w:Wd)(n:Int)(pm sm rm u q r:VO):Nat→VO:=λi=>match i with
 | 2=>.cells w.cells
 | 3=>.cells [uP,uP,uP,uP,uP,uP]
 | 7=>pm
 | 8=>.cells [.val (.int .i64 n),.map 7]
 | 9=>sm
 | 10=>rm
 | 11=>.cells [.map 9,.map 10]
 | 12=>u
 | 13=>q
 | 14=>r
 | 15=>bO
 |i=>o i
def Al:VO:=.cells [.val (.int .i64 0),.val (.int .u32 0),.val (.int .u32 0),.val (.int .i64 0),.val (.int .i64 0),.val (.int .i64 0),.val (.int .i64 0),.ptr 4 0,.ptr 4 0]
def dc:VO:=.map kI (λ_=>none) [] 0
def i7 (o:Nat→VO)(w:Wd)(n:Int)(pm sm rm u q r:VO):VT:=⟨cj (fk o w n pm sm rm u q r) Al (λ_=>none) [] 0 0 0 0,[]⟩
def nZ:TV:=.val (.slice none 0 0)
def JB:VO:=.cells [.val (.int .i64 20),.val (.int .i64 100),.val (.int .i64 0),nZ,.val (.int .i64 0),.val (.int .i64 0)]
def uR (n:Int)(l:Nat→List VO)(k:Nat):ba:=λro ys T K=>(ro=0∧ys= [.val (.int .i64 n)])∧K (.ptr (T.objs.length+k) 0) {T with objs:=T.objs++l T.objs.length}
def Gn (Pi:VO→Prop):ba:=λro ys T K=>match ys,T.objs[8]?,T.objs[7]? with
 | .ptr 8 0:: .agg [.val (.int .i64 _),.val (.int .u32 _),.val (.int .i64 _)]:: [],some (VO.cells [.val (.int .i64 _),.map 7]),some m=>(ro=0∧Pi m)∧∀(e:Int) (m':VO),Pi m'→K (.val (.int .i64 e)) {T with objs:=T.objs.set 7 m' }
 |_,_,_=>aG 88 default ys
def v8 (Pi:VO→Prop):ba:=λro ys T K=>match ys,T.objs[8]?,T.objs[7]? with
 | .ptr 8 0:: .val (.int .i64 _):: .val (.bool _):: [],some (VO.cells [.val (.int .i64 _),.map 7]),some m=>(ro=0∧Pi m)∧∀(e:Int) (m':VO),Pi m'→K (.val (.int .i64 e)) {T with objs:=T.objs.set 7 m' }
 |_,_,_=>aG 88 default ys
def Gp (Qi:VO→Prop):ba:=λro ys T K=>match ys,T.objs[13]? with
 | .ptr 13 0:: .agg [.val (.int .i64 _),.val (.int .u32 _),.val (.int .i64 _)]:: [],some m=>(ro=0∧Qi m)∧∀(e:Int) (m':VO),Qi m'→K (.val (.int .i64 e)) {T with objs:=T.objs.set 13 m' }
 |_,_=>aG 89 default ys
def wa (Qi:VO→Prop):ba:=λro ys T K=>match ys,T.objs[13]? with
 | .ptr 13 0:: .val (.int .i64 _):: .val (.bool _):: [],some m=>(ro=0∧Qi m)∧∀(e:Int) (m':VO),Qi m'→K (.val (.int .i64 e)) {T with objs:=T.objs.set 13 m' }
 |_,_=>aG 89 default ys
def Gq (Si:VO→VO→Prop):ba:=λro ys T K=>match ys,T.objs[11]?,T.objs[9]?,T.objs[10]? with
 | .ptr 11 0:: .agg [.val (.int .i64 _),.val (.int .u32 _),.val (.int .i64 _)]:: [],some (VO.cells [.map 9,.map 10]),some m,some k=>(ro=0∧Si m k)∧∀(e:Int) (m' k':VO),Si m' k'→K (.val (.int .i64 e)) {T with objs:=(T.objs.set 9 m').set 10 k' }
 |_,_,_,_=>aG 90 default ys
def Gs (Si:VO→VO→Prop):ba:=λro ys T K=>match ys,T.objs[11]?,T.objs[9]?,T.objs[10]? with
 | .ptr 11 0:: .val (.int .i64 _):: .val (.int .i64 _):: .val (.int .i64 _):: [],some (VO.cells [.map 9,.map 10]),some m,some k=>(ro=0∧Si m k)∧∀(e:Int) (m' k':VO),Si m' k'→K (.val (.int .i64 e)) {T with objs:=(T.objs.set 9 m').set 10 k' }
 |_,_,_,_=>aG 90 default ys
def Gt (Ri:VO→Prop):ba:=λro ys T K=>match ys,T.objs[14]? with
 | .ptr 14 0:: .agg [.val (.int .i64 _),.val (.int .u32 _),.val (.int .i64 _)]:: [],some m=>(ro=0∧Ri m)∧∀(e:Int) (m':VO),Ri m'→K (.val (.int .i64 e)) {T with objs:=T.objs.set 14 m' }
 |_,_=>aG 91 default ys
def Gu (Ri:VO→Prop):ba:=λro ys T K=>match ys,T.objs[14]? with
 | .ptr 14 0:: .val (.int .i64 _):: .val (.int .i64 _):: .val (.int .i64 _):: [],some m=>(ro=0∧Ri m)∧∀(e:Int) (m':VO),Ri m'→K (.val (.int .i64 e)) {T with objs:=T.objs.set 14 m' }
 |_,_=>aG 91 default ys
def uU (Ui:VO→Prop):ba:=λro ys T K=>match ys,T.objs[12]? with
 | .ptr 12 0:: .agg [.val (.int .i64 _),.val (.int .u32 _),.val (.int .u32 _),.val (.int .i64 _),.val (.int .i64 _)]:: .val (.int .i64 _):: .val (.int .i64 0):: [],some m=>(ro=0∧Ui m)∧∀(e:En) (q:Bool) (m':VO),Ui m'→K (.tup [.agg (aO e),.val (.bool q)]) {T with objs:=T.objs.set 12 m' }
 |_,_=>aG 92 default ys
def fU (o:Nat→VO)(z:VO)(f:Fl)(b:Int)(Pre:VT→Prop)(R1:VO→(Value→Option TV)→Es→(Nat→VO)→Prop)(R2:VO→(Value→Option TV)→Es→(Nat→VO)→VO→Prop):ba:=λro ys T K=>(ro=0∧ys= [.ptr 6 0,.agg (au f),.val (.int .i64 b),.val (.int .i64 0)]∧Pre T)∧
 (∀(en:En) (q:Bool) (rg:VO) (lk:Value→Option TV) (es:Es) (ck:Nat) (now came went:Int) (x:Nat→VO),R1 rg lk es x→K (.tup [.agg (aO en),.val (.bool q)]) (fy o rg lk es ck now came went x [z]))∧
 (∀(en:En) (q:Bool) (rg:VO) (lk:Value→Option TV) (es:Es) (ck:Nat) (now came went:Int) (x:Nat→VO) (b1 b2 b3 l:VO),R2 rg lk es x l→K (.tup [.agg (aO en),.val (.bool q)]) (fy o rg lk es ck now came went x [z,b1,b2,b3,l]))
def wb:List Nat:= [1,2,4,28,29,30]
def yQ:List Nat:= [1,2,4,95,96,97]
def rl:List Nat:= [1,2,4,137,138,139]
def mV (k:Nat)(B:Bs)(j:Int):List TV:= [.ptr 2 0,.ptr 3 0,.ptr 15 0,.vec k B .none,.val (.int .i64 B.length),.val (.int .i64 j)]
def wG (n:Nat)(keys:List Nat)(vs0:List TV)(Pre:VT→Prop)(R:VT→KX→Prop):bH:=λrd ro σ T D K=>(rd=none∧ro=0∧D= []∧Nat.beq σ.length n=true∧pick keys σ=vs0∧Pre T)∧R T K
def JC (T:VT)(pm q u r:VO):VT:={T with objs:=(((T.objs.set 7 pm).set 13 q).set 12 u).set 14 r}
def JD (T:VT)(sm rm r:VO):VT:={T with objs:=((T.objs.set 9 sm).set 10 rm).set 14 r}
def JE (T:VT)(rg mp tb u:VO)(x:Nat→VO):VT:={T with objs:=((((T.objs.set 4 rg).set 5 mp).set 6 tb).set 12 u)++(aB x++ [])}
def LV (o:Nat→VO)(w:Wd)(n:Int)(Pi Qi Ri Ui:VO→Prop)(Si:VO→VO→Prop)(Fi:VO→(Value→Option TV)→Es→(Nat→VO)→Prop)(P0 P2 P4:VT→Prop)(cA cB cC:Code):Nat→Option (bH × Code):=dk [
 (0,wG 169 wb (mV 3 w.B 0) P0 λT K=>∀pm q u r,Pi pm→Qi q→Ui u→Ri r→K .normal (ay 169 wb (mV 3 w.B w.B.length)) (JC T pm q u r) [],cA),
 (2,wG 169 yQ (mV 3 w.S 0) P2 λT K=>∀sm rm r,Si sm rm→Ri r→K .normal (ay 169 yQ (mV 3 w.S w.S.length)) (JD T sm rm r) [],cB),
 (4,wG 169 rl (mV 5 w.F 0) P4 λT K=>∀(rg u:VO) (lk:Value→Option TV) (es:Es) (ck:Nat) (now came went:Int) (x:Nat→VO),Fi rg lk es x→Ui u→K .normal (ay 169 rl (mV 5 w.F w.F.length)) (JE T rg (.map kF lk es ck) (ml now came went) u x) [],cC)]
def DT (n:Int):Nat→List VO:=λk=> [dc,.cells [.val (.int .i64 n),.map k]]
def DU (n:Int):Nat→List VO:=λ_=> [.cells [.val (.int .i64 n),nZ]]
theorem K8 (o:Nat→VO)(w:Wd)(n:Int)(Pi Qi Ri Ui:VO→Prop)(Si:VO→VO→Prop)(Fi:VO→(Value→Option TV)→Es→(Nat→VO)→Prop)(P0 P2 P4:VT→Prop)(Q:TV→VT→Prop):aH prog ae (az [(DR,uR n (DT n) 1),(DS,uR n (DU n) 0)]) (bp [(999998,.dead,none),(16,.val (.int .i64 n),none)]) 300 (LV o w n Pi Qi Ri Ui Si Fi P0 P2 P4 (ax prog eR 0) (ax prog eR 2) (ax prog eR 4)) 0 eR [.agg w.cells] ⟨[o 0,o 1],[]⟩ Q=
 (aJ prog (λ_=>.none) (.binOp .add 3 (.const (.int .i64 1)) (.tmp 15) 3) [(15,(ar (wrap i64 (Int.tmod (wrap u64 (Wd.pc w)) (100:Int)))))] (ar n)∧
 (((@Eq (Nat) 0 0)∧
 (@Eq (List TV) [(ar n)] [(ar n)]))∧
 (((@Eq (Nat) 0 0)∧
 (@Eq (List TV) [(ar n)] [(ar n)]))∧
 ((ax prog eR (0:Nat)=ax prog eR (0:Nat))∧
 (((@Eq (Option Nat) .none .none)∧
 ((@Eq (Nat) 0 0)∧
 ((@Eq (List Nat) [] [])∧
 ((@Eq (Bool) true true)∧
 ((@Eq (List TV) (Bp (Wd.B w) (↑(length (Wd.B w)):Int)) (Bp (Wd.B w) (↑(length (Wd.B w)):Int)))∧
 P0 ⟨[o (0:Nat),o (1:Nat),(jZ (Wd.pc w) (Wd.B w) (Wd.U w) (Wd.D w) (Wd.S w) (Wd.C w) (Wd.F w) (Wd.W w)),(.cells [(.val (.pointer .none)),(.val (.pointer .none)),(.val (.pointer .none)),(.val (.pointer .none)),(.val (.pointer .none)),(.val (.pointer .none))]),EP,(.map ⟨true,[(.int .i64),(.int .u32),(.int .u32),(.int .i64),(.int .i64)]⟩ (λ_=>.none) [] 0),(ES (.map 5)),(.map ⟨false,[(.int .i64)]⟩ (λ_=>.none) [] 0),(eo n (.map 7)),(.map ⟨false,[(.int .i64)]⟩ (λ_=>.none) [] 0),(.map ⟨false,[(.int .i64)]⟩ (λ_=>.none) [] 0),(ce (.map 9) (.map 10)),(.cells [EQ,ER,bu,ep,bu,bu]),(.cells [(ar n),ep]),(.cells [ep]),qX],[]⟩)))))∧
 (∀pm:VO,(∀q:VO,(∀u:VO,(∀r:VO,(Pi (pm)→(Qi (q)→(Ui (u)→(Ri (r)→((ax prog eR (2:Nat)=ax prog eR (2:Nat))∧
 (((@Eq (Option Nat) .none .none)∧
 ((@Eq (Nat) 0 0)∧
 ((@Eq (List Nat) [] [])∧
 ((@Eq (Bool) true true)∧
 ((@Eq (List TV) (Bp (Wd.S w) (↑(length (Wd.S w)):Int)) (Bp (Wd.S w) (↑(length (Wd.S w)):Int)))∧
 P2 (Bo (o (0:Nat)) (o (1:Nat)) (Wd.pc w) (Wd.B w) (Wd.U w) (Wd.D w) (Wd.S w) (Wd.C w) (Wd.F w) (Wd.W w) (.val (.pointer .none)) (.val (.pointer .none)) (.val (.pointer .none)) (.val (.pointer .none)) (.val (.pointer .none)) (.val (.pointer .none)) (.map ⟨true,[(.int .i64),(.int .u32),(.int .u32),(.int .i64),(.int .i64)]⟩ (λ_=>.none) [] 0) (.map 5) pm n (.map 7) (.map ⟨false,[(.int .i64)]⟩ (λ_=>.none) [] 0) (.map ⟨false,[(.int .i64)]⟩ (λ_=>.none) [] 0) (.map 9) (.map 10) u q r))))))∧
 (∀sm:VO,(∀rm:VO,(∀r_23:VO,(Si (sm) (rm)→(Ri (r_23)→((ax prog eR (4:Nat)=ax prog eR (4:Nat))∧
 (((@Eq (Option Nat) .none .none)∧
 ((@Eq (Nat) 0 0)∧
 ((@Eq (List Nat) [] [])∧
 ((@Eq (Bool) true true)∧
 ((@Eq (List TV) [j3,(.ptr 3 0),(.ptr 15 0),(.vec 5 (Wd.F w) .none),(ar (↑(length (Wd.F w)):Int)),bu] [j3,(.ptr 3 0),(.ptr 15 0),(.vec 5 (Wd.F w) .none),(ar (↑(length (Wd.F w)):Int)),bu])∧
 P4 (Bo (o (0:Nat)) (o (1:Nat)) (Wd.pc w) (Wd.B w) (Wd.U w) (Wd.D w) (Wd.S w) (Wd.C w) (Wd.F w) (Wd.W w) (.val (.pointer .none)) (.val (.pointer .none)) (.val (.pointer .none)) (.val (.pointer .none)) (.val (.pointer .none)) (.val (.pointer .none)) (.map ⟨true,[(.int .i64),(.int .u32),(.int .u32),(.int .i64),(.int .i64)]⟩ (λ_=>.none) [] 0) (.map 5) pm n (.map 7) sm rm (.map 9) (.map 10) u q r_23))))))∧
 (∀rg:VO,(∀u_27:VO,(∀lk:Value→Option TV,(∀es:Es,(∀ck:Nat,(∀now:Int,(∀came:Int,(∀went:Int,(∀x:Nat→VO,(Fi (rg) (lk) (es) (x)→(Ui (u_27)→Q (.agg [ma,j7,(.ptr 11 0),(.ptr 12 0),(.ptr 13 0),(.ptr 14 0)]) ⟨[(o (0:Nat)),(o (1:Nat)),(.cells [(.val (.int .i64 (Wd.pc w))),(.vec 3 (Wd.B w) .none),(.vec 1 (Wd.U w) .none),(.vec 1 (Wd.D w) .none),(.vec 3 (Wd.S w) .none),(.vec 1 (Wd.C w) .none),(.vec 5 (Wd.F w) .none),(.vec 1 (Wd.W w) .none)]),(.cells [(.ptr 6 0),(.ptr 8 0),(.ptr 11 0),(.ptr 12 0),(.ptr 13 0),(.ptr 14 0)]),(rg),(.map ⟨true,[(.int .i64),(.int .u32),(.int .u32),(.int .i64),(.int .i64)]⟩ (lk) (es) (ck)),(.cells [(.val (.int .i64 20)),(.val (.int .i64 100)),(.val (.int .i64 (now))),(.map 5),(.ptr 4 0),(.val (.int .i64 (came))),(.val (.int .i64 (went)))]),(pm),(.cells [(.val (.int .i64 (n))),(.map 7)]),(sm),(rm),(.cells [(.map 9),(.map 10)]),(u_27),(q),(r_23),(.cells [(.ptr 6 0),(.ptr 8 0),(.ptr 11 0),(.ptr 12 0),(.ptr 13 0),(.ptr 14 0)])]++(aB x++ []),[]⟩))))))))))))))))))))))))))))))))):=by kernel_rfl
theorem Gv (o:Nat→VO)(w:Wd)(n:Int)(pm sm rm u q r:VO)(Pi Qi:VO→Prop)(b1 b2 b3:Bool)(i a c:Int)(j:Nat)(Q:Exit→List TV→VT→List Nat→Nat→Prop):vx prog ae (az [(CS,Gn Pi),(tp,v8 Pi),(x9,v8 Pi),(pC,Gp Qi),(Dg,wa Qi),(Dh,wa Qi)]) (bp [(999998,.dead,none),(33,.elt (gA i a c),none),(55,.elt [.val (.bool b1)],none),(65,.elt [.val (.bool b1)],none),(80,.elt [.val (.bool b2)],none),(90,.elt [.val (.bool b2)],none)]) 300 bo none 0 (dj prog eR 0) (ay 169 wb (mV 3 w.B j)) (i7 o w n pm sm rm u q r) [] (dm wb Q)=
 (bif decide ((↑j:Int)<(↑(length (Wd.B w)):Int))
 then (aJ prog (λ_=>.none) (.indexAddr 22 (.tmp 28) (.tmp 30)) [(28,(c9 (Wd.B w))),(30,(ar (↑j:Int)))] (xN i a c)∧
 (((@Eq (Nat) 0 0)∧
 Pi (pm))∧
 (∀e:Int,(∀m':VO,(Pi (m')→(((@Eq (Nat) 0 0)∧
 Qi (q))∧
 (∀e_22:Int,(∀m'_23:VO,(Qi (m'_23)→(bif decide ((↑j:Int)<(↑(length (Wd.U w)):Int))
 then (aJ prog (λ_=>.none) (.indexAddr 23 (.tmp 53) (.tmp 54)) [(53,(ej (Wd.U w))),(54,(ar (↑j:Int)))] (uq b1)∧
 (((@Eq (Nat) 0 0)∧
 Pi (m'))∧
 (∀e_25:Int,(∀m'_26:VO,(Pi (m'_26)→(aJ prog (λ_=>.none) (.indexAddr 23 (.tmp 63) (.tmp 64)) [(63,(ej (Wd.U w))),(64,(ar (↑j:Int)))] (uq b1)∧
 (((@Eq (Nat) 0 0)∧
 Qi (m'_23))∧
 (∀e_28:Int,(∀m'_29:VO,(Qi (m'_29)→(bif decide ((↑j:Int)<(↑(length (Wd.D w)):Int))
 then (aJ prog (λ_=>.none) (.indexAddr 23 (.tmp 78) (.tmp 79)) [(78,(ej (Wd.D w))),(79,(ar (↑j:Int)))] (uq b2)∧
 (((@Eq (Nat) 0 0)∧
 Pi (m'_26))∧
 (∀e_31:Int,(∀m'_32:VO,(Pi (m'_32)→(aJ prog (λ_=>.none) (.indexAddr 23 (.tmp 88) (.tmp 89)) [(88,(ej (Wd.D w))),(89,(ar (↑j:Int)))] (uq b2)∧
 (((@Eq (Nat) 0 0)∧
 Qi (m'_29))∧
 (∀e_34:Int,(∀m'_35:VO,(Qi (m'_35)→Q .normal (pp (Wd.B w) (↑(length (Wd.B w)):Int) (wrap i64 ((↑j:Int)+(1:Int)))) (up (o (0:Nat)) (o (1:Nat)) (Wd.pc w) (Wd.B w) (Wd.U w) (Wd.D w) (Wd.S w) (Wd.C w) (Wd.F w) (Wd.W w) (.val (.pointer .none)) (.val (.pointer .none)) (.val (.pointer .none)) (.val (.pointer .none)) (.val (.pointer .none)) (.val (.pointer .none)) (.map ⟨true,[(.int .i64),(.int .u32),(.int .u32),(.int .i64),(.int .i64)]⟩ (λ_=>.none) [] 0) (.map 5) m'_32 n (.map 7) sm rm (.map 9) (.map 10) u m'_35 r i a c) [] 169))))))))))
 else Q .normal (pp (Wd.B w) (↑(length (Wd.B w)):Int) (wrap i64 ((↑j:Int)+(1:Int)))) (up (o (0:Nat)) (o (1:Nat)) (Wd.pc w) (Wd.B w) (Wd.U w) (Wd.D w) (Wd.S w) (Wd.C w) (Wd.F w) (Wd.W w) (.val (.pointer .none)) (.val (.pointer .none)) (.val (.pointer .none)) (.val (.pointer .none)) (.val (.pointer .none)) (.val (.pointer .none)) (.map ⟨true,[(.int .i64),(.int .u32),(.int .u32),(.int .i64),(.int .i64)]⟩ (λ_=>.none) [] 0) (.map 5) m'_26 n (.map 7) sm rm (.map 9) (.map 10) u m'_29 r i a c) [] 169)))))))))))
 else (bif decide ((↑j:Int)<(↑(length (Wd.D w)):Int))
 then (aJ prog (λ_=>.none) (.indexAddr 23 (.tmp 78) (.tmp 79)) [(78,(ej (Wd.D w))),(79,(ar (↑j:Int)))] (uq b2)∧
 (((@Eq (Nat) 0 0)∧
 Pi (m'))∧
 (∀e_25:Int,(∀m'_26:VO,(Pi (m'_26)→(aJ prog (λ_=>.none) (.indexAddr 23 (.tmp 88) (.tmp 89)) [(88,(ej (Wd.D w))),(89,(ar (↑j:Int)))] (uq b2)∧
 (((@Eq (Nat) 0 0)∧
 Qi (m'_23))∧
 (∀e_28:Int,(∀m'_29:VO,(Qi (m'_29)→Q .normal (pp (Wd.B w) (↑(length (Wd.B w)):Int) (wrap i64 ((↑j:Int)+(1:Int)))) (up (o (0:Nat)) (o (1:Nat)) (Wd.pc w) (Wd.B w) (Wd.U w) (Wd.D w) (Wd.S w) (Wd.C w) (Wd.F w) (Wd.W w) (.val (.pointer .none)) (.val (.pointer .none)) (.val (.pointer .none)) (.val (.pointer .none)) (.val (.pointer .none)) (.val (.pointer .none)) (.map ⟨true,[(.int .i64),(.int .u32),(.int .u32),(.int .i64),(.int .i64)]⟩ (λ_=>.none) [] 0) (.map 5) m'_26 n (.map 7) sm rm (.map 9) (.map 10) u m'_29 r i a c) [] 169))))))))))
 else Q .normal (pp (Wd.B w) (↑(length (Wd.B w)):Int) (wrap i64 ((↑j:Int)+(1:Int)))) (up (o (0:Nat)) (o (1:Nat)) (Wd.pc w) (Wd.B w) (Wd.U w) (Wd.D w) (Wd.S w) (Wd.C w) (Wd.F w) (Wd.W w) (.val (.pointer .none)) (.val (.pointer .none)) (.val (.pointer .none)) (.val (.pointer .none)) (.val (.pointer .none)) (.val (.pointer .none)) (.map ⟨true,[(.int .i64),(.int .u32),(.int .u32),(.int .i64),(.int .i64)]⟩ (λ_=>.none) [] 0) (.map 5) m' n (.map 7) sm rm (.map 9) (.map 10) u m'_23 r i a c) [] 169)))))))))))
 else Q (.exit 0) (pp (Wd.B w) (↑(length (Wd.B w)):Int) (↑j:Int)) (Bo (o (0:Nat)) (o (1:Nat)) (Wd.pc w) (Wd.B w) (Wd.U w) (Wd.D w) (Wd.S w) (Wd.C w) (Wd.F w) (Wd.W w) (.val (.pointer .none)) (.val (.pointer .none)) (.val (.pointer .none)) (.val (.pointer .none)) (.val (.pointer .none)) (.val (.pointer .none)) (.map ⟨true,[(.int .i64),(.int .u32),(.int .u32),(.int .i64),(.int .i64)]⟩ (λ_=>.none) [] 0) (.map 5) pm n (.map 7) sm rm (.map 9) (.map 10) u q r) [] 169):=by kernel_rfl
theorem Gw (o:Nat→VO)(w:Wd)(n:Int)(pm sm rm u q r:VO)(Si:VO→VO→Prop)(Ri:VO→Prop)(i a c p:Int)(j:Nat)(Q:Exit→List TV→VT→List Nat→Nat→Prop):vx prog ae (az [(CN,Gq Si),(CO,Gs Si),(lG,Gt Ri),(yK,Gu Ri)]) (bp [(999998,.dead,none),(100,.elt (gA i a c),none),(122,.elt [.val (.int .i64 p)],none),(132,.elt [.val (.int .i64 p)],none)]) 300 bo none 0 (dj prog eR 2) (ay 169 yQ (mV 3 w.S j)) (i7 o w n pm sm rm u q r) [] (dm yQ Q)=
 (bif decide ((↑j:Int)<(↑(length (Wd.S w)):Int))
 then (aJ prog (λ_=>.none) (.indexAddr 24 (.tmp 95) (.tmp 97)) [(95,(c9 (Wd.S w))),(97,(ar (↑j:Int)))] (xN i a c)∧
 (((@Eq (Nat) 0 0)∧
 Si (sm) (rm))∧
 (∀e:Int,(∀m':VO,(∀k':VO,(Si (m') (k')→(((@Eq (Nat) 0 0)∧
 Ri (r))∧
 (∀e_21:Int,(∀m'_22:VO,(Ri (m'_22)→(bif decide ((↑j:Int)<(↑(length (Wd.C w)):Int))
 then (aJ prog (λ_=>.none) (.indexAddr 25 (.tmp 120) (.tmp 121)) [(120,(ej (Wd.C w))),(121,(ar (↑j:Int)))] (rO p)∧
 (((@Eq (Nat) 0 0)∧
 Si (m') (k'))∧
 (∀e_24:Int,(∀m'_25:VO,(∀k'_26:VO,(Si (m'_25) (k'_26)→(aJ prog (λ_=>.none) (.indexAddr 25 (.tmp 130) (.tmp 131)) [(130,(ej (Wd.C w))),(131,(ar (↑j:Int)))] (rO p)∧
 (((@Eq (Nat) 0 0)∧
 Ri (m'_22))∧
 (∀e_28:Int,(∀m'_29:VO,(Ri (m'_29)→Q .normal (pp (Wd.S w) (↑(length (Wd.S w)):Int) (wrap i64 ((↑j:Int)+(1:Int)))) (up (o (0:Nat)) (o (1:Nat)) (Wd.pc w) (Wd.B w) (Wd.U w) (Wd.D w) (Wd.S w) (Wd.C w) (Wd.F w) (Wd.W w) (.val (.pointer .none)) (.val (.pointer .none)) (.val (.pointer .none)) (.val (.pointer .none)) (.val (.pointer .none)) (.val (.pointer .none)) (.map ⟨true,[(.int .i64),(.int .u32),(.int .u32),(.int .i64),(.int .i64)]⟩ (λ_=>.none) [] 0) (.map 5) pm n (.map 7) m'_25 k'_26 (.map 9) (.map 10) u q m'_29 i a c) [] 169)))))))))))
 else Q .normal (pp (Wd.S w) (↑(length (Wd.S w)):Int) (wrap i64 ((↑j:Int)+(1:Int)))) (up (o (0:Nat)) (o (1:Nat)) (Wd.pc w) (Wd.B w) (Wd.U w) (Wd.D w) (Wd.S w) (Wd.C w) (Wd.F w) (Wd.W w) (.val (.pointer .none)) (.val (.pointer .none)) (.val (.pointer .none)) (.val (.pointer .none)) (.val (.pointer .none)) (.val (.pointer .none)) (.map ⟨true,[(.int .i64),(.int .u32),(.int .u32),(.int .i64),(.int .i64)]⟩ (λ_=>.none) [] 0) (.map 5) pm n (.map 7) m' k' (.map 9) (.map 10) u q m'_22 i a c) [] 169)))))))))))
 else Q (.exit 2) (pp (Wd.S w) (↑(length (Wd.S w)):Int) (↑j:Int)) (Bo (o (0:Nat)) (o (1:Nat)) (Wd.pc w) (Wd.B w) (Wd.U w) (Wd.D w) (Wd.S w) (Wd.C w) (Wd.F w) (Wd.W w) (.val (.pointer .none)) (.val (.pointer .none)) (.val (.pointer .none)) (.val (.pointer .none)) (.val (.pointer .none)) (.val (.pointer .none)) (.map ⟨true,[(.int .i64),(.int .u32),(.int .u32),(.int .i64),(.int .i64)]⟩ (λ_=>.none) [] 0) (.map 5) pm n (.map 7) sm rm (.map 9) (.map 10) u q r) [] 169):=by kernel_rfl
theorem Gx (o:Nat→VO)(rg:VO)(lk:Value→Option TV)(es:Es)(ck:Nat)(now came went:Int)(x:Nat→VO)(w:Wd)(n:Int)(pm sm rm u q r:VO)(Ui:VO→Prop)(f:Fl)(b:Int)(Pre:VT→Prop)(R1:VO→(Value→Option TV)→Es→(Nat→VO)→Prop)(R2:VO→(Value→Option TV)→Es→(Nat→VO)→VO→Prop)(j:Nat)(Q:Exit→List TV→VT→List Nat→Nat→Prop):vx prog ae (az [(pG,fU (fk o w n pm sm rm u q r) (.cells (au f)) f b Pre R1 R2),(yx,uU Ui)]) (bp [(999998,.dead,none),(142,.elt (au f),none),(155,.elt [.val (.int .i64 b)],none),(164,.elt [.val (.int .i64 b)],none)]) 300 bo none 0 (dj prog eR 4) (ay 169 rl (mV 5 w.F j)) (fy (fk o w n pm sm rm u q r) rg lk es ck now came went x []) [] (dm rl Q)=
 (bif decide ((↑j:Int)<(↑(length (Wd.F w)):Int))
 then (aJ prog (λ_=>.none) (.indexAddr 26 (.tmp 137) (.tmp 139)) [(137,(.vec 5 (Wd.F w) .none)),(139,(ar (↑j:Int)))] (.elt [(ar (fst f)),(nc (fst (snd f))),(nc (fst (snd (snd f)))),(ar (fst (snd (snd (snd f))))),(ar (snd (snd (snd (snd f)))))])∧
 (bif decide ((↑j:Int)<(↑(length (Wd.W w)):Int))
 then (aJ prog (λ_=>.none) (.indexAddr 25 (.tmp 153) (.tmp 154)) [(153,(ej (Wd.W w))),(154,(ar (↑j:Int)))] (rO b)∧
 (((@Eq (Nat) 0 0)∧
 ((@Eq (List TV) [ma,(cR (fst f) (fst (snd f)) (fst (snd (snd f))) (fst (snd (snd (snd f)))) (snd (snd (snd (snd f))))),(ar b),bu] [ma,(cR (fst f) (fst (snd f)) (fst (snd (snd f))) (fst (snd (snd (snd f)))) (snd (snd (snd (snd f))))),(ar b),bu])∧
 Pre ⟨[(o (0:Nat)),(o (1:Nat)),(.cells [(.val (.int .i64 (Wd.pc w))),(.vec 3 (Wd.B w) .none),(.vec 1 (Wd.U w) .none),(.vec 1 (Wd.D w) .none),(.vec 3 (Wd.S w) .none),(.vec 1 (Wd.C w) .none),(.vec 5 (Wd.F w) .none),(.vec 1 (Wd.W w) .none)]),(.cells [(.val (.pointer .none)),(.val (.pointer .none)),(.val (.pointer .none)),(.val (.pointer .none)),(.val (.pointer .none)),(.val (.pointer .none))]),(rg),(.map ⟨true,[(.int .i64),(.int .u32),(.int .u32),(.int .i64),(.int .i64)]⟩ (lk) (es) (ck)),(.cells [(.val (.int .i64 20)),(.val (.int .i64 100)),(.val (.int .i64 (now))),(.map 5),(.ptr 4 0),(.val (.int .i64 (came))),(.val (.int .i64 (went)))]),(pm),(.cells [(.val (.int .i64 (n))),(.map 7)]),(sm),(rm),(.cells [(.map 9),(.map 10)]),(u),(q),(r),(.cells [(.ptr 6 0),(.ptr 8 0),(.ptr 11 0),(.ptr 12 0),(.ptr 13 0),(.ptr 14 0)])]++(aB x++ [(.cells [(.val (.int .i64 (fst f))),(.val (.int .u32 (fst (snd f)))),(.val (.int .u32 (fst (snd (snd f))))),(.val (.int .i64 (fst (snd (snd (snd f)))))),(.val (.int .i64 (snd (snd (snd (snd f))))))])]),[]⟩))∧
 ((∀en:En,(∀q_26:Bool,(∀rg_27:VO,(∀lk_28:Value→Option TV,(∀es_29:Es,(∀ck_30:Nat,(∀now_31:Int,(∀came_32:Int,(∀went_33:Int,(∀x_34:Nat→VO,(R1 (rg_27) (lk_28) (es_29) (x_34)→(aJ prog (λ_=>.none) (.indexAddr 25 (.tmp 162) (.tmp 163)) [(162,(ej (Wd.W w))),(163,(ar (↑j:Int)))] (rO b)∧
 (((@Eq (Nat) 0 0)∧
 Ui (u))∧
 (∀e:En,(∀q_37:Bool,(∀m':VO,(Ui (m')→Q .normal (Bn (Wd.F w) (↑(length (Wd.F w)):Int) (wrap i64 ((↑j:Int)+(1:Int)))) ⟨[(o (0:Nat)),(o (1:Nat)),(.cells [(.val (.int .i64 (Wd.pc w))),(.vec 3 (Wd.B w) .none),(.vec 1 (Wd.U w) .none),(.vec 1 (Wd.D w) .none),(.vec 3 (Wd.S w) .none),(.vec 1 (Wd.C w) .none),(.vec 5 (Wd.F w) .none),(.vec 1 (Wd.W w) .none)]),(.cells [(.val (.pointer .none)),(.val (.pointer .none)),(.val (.pointer .none)),(.val (.pointer .none)),(.val (.pointer .none)),(.val (.pointer .none))]),(rg_27),(.map ⟨true,[(.int .i64),(.int .u32),(.int .u32),(.int .i64),(.int .i64)]⟩ (lk_28) (es_29) (ck_30)),(.cells [(.val (.int .i64 20)),(.val (.int .i64 100)),(.val (.int .i64 (now_31))),(.map 5),(.ptr 4 0),(.val (.int .i64 (came_32))),(.val (.int .i64 (went_33)))]),(pm),(.cells [(.val (.int .i64 (n))),(.map 7)]),(sm),(rm),(.cells [(.map 9),(.map 10)]),(m'),(q),(r),(.cells [(.ptr 6 0),(.ptr 8 0),(.ptr 11 0),(.ptr 12 0),(.ptr 13 0),(.ptr 14 0)])]++(aB x_34++ [(.cells [(.val (.int .i64 (fst f))),(.val (.int .u32 (fst (snd f)))),(.val (.int .u32 (fst (snd (snd f))))),(.val (.int .i64 (fst (snd (snd (snd f)))))),(.val (.int .i64 (snd (snd (snd (snd f))))))])]),[]⟩ [] 169)))))))))))))))))∧
 (∀en:En,(∀q_26:Bool,(∀rg_27:VO,(∀lk_28:Value→Option TV,(∀es_29:Es,(∀ck_30:Nat,(∀now_31:Int,(∀came_32:Int,(∀went_33:Int,(∀x_34:Nat→VO,(∀b1:VO,(∀b2:VO,(∀b3:VO,(∀l:VO,(R2 (rg_27) (lk_28) (es_29) (x_34) (l)→(aJ prog (λ_=>.none) (.indexAddr 25 (.tmp 162) (.tmp 163)) [(162,(ej (Wd.W w))),(163,(ar (↑j:Int)))] (rO b)∧
 (((@Eq (Nat) 0 0)∧
 Ui (u))∧
 (∀e:En,(∀q_41:Bool,(∀m':VO,(Ui (m')→Q .normal (Bn (Wd.F w) (↑(length (Wd.F w)):Int) (wrap i64 ((↑j:Int)+(1:Int)))) ⟨[(o (0:Nat)),(o (1:Nat)),(.cells [(.val (.int .i64 (Wd.pc w))),(.vec 3 (Wd.B w) .none),(.vec 1 (Wd.U w) .none),(.vec 1 (Wd.D w) .none),(.vec 3 (Wd.S w) .none),(.vec 1 (Wd.C w) .none),(.vec 5 (Wd.F w) .none),(.vec 1 (Wd.W w) .none)]),(.cells [(.val (.pointer .none)),(.val (.pointer .none)),(.val (.pointer .none)),(.val (.pointer .none)),(.val (.pointer .none)),(.val (.pointer .none))]),(rg_27),(.map ⟨true,[(.int .i64),(.int .u32),(.int .u32),(.int .i64),(.int .i64)]⟩ (lk_28) (es_29) (ck_30)),(.cells [(.val (.int .i64 20)),(.val (.int .i64 100)),(.val (.int .i64 (now_31))),(.map 5),(.ptr 4 0),(.val (.int .i64 (came_32))),(.val (.int .i64 (went_33)))]),(pm),(.cells [(.val (.int .i64 (n))),(.map 7)]),(sm),(rm),(.cells [(.map 9),(.map 10)]),(m'),(q),(r),(.cells [(.ptr 6 0),(.ptr 8 0),(.ptr 11 0),(.ptr 12 0),(.ptr 13 0),(.ptr 14 0)])]++(aB x_34++ [(.cells [(.val (.int .i64 (fst f))),(.val (.int .u32 (fst (snd f)))),(.val (.int .u32 (fst (snd (snd f))))),(.val (.int .i64 (fst (snd (snd (snd f)))))),(.val (.int .i64 (snd (snd (snd (snd f))))))]),(b1),(b2),(b3),(l)]),[]⟩ [] 169))))))))))))))))))))))))
 else Q .normal (Bn (Wd.F w) (↑(length (Wd.F w)):Int) (wrap i64 ((↑j:Int)+(1:Int)))) ⟨[(o (0:Nat)),(o (1:Nat)),(.cells [(.val (.int .i64 (Wd.pc w))),(.vec 3 (Wd.B w) .none),(.vec 1 (Wd.U w) .none),(.vec 1 (Wd.D w) .none),(.vec 3 (Wd.S w) .none),(.vec 1 (Wd.C w) .none),(.vec 5 (Wd.F w) .none),(.vec 1 (Wd.W w) .none)]),(.cells [(.val (.pointer .none)),(.val (.pointer .none)),(.val (.pointer .none)),(.val (.pointer .none)),(.val (.pointer .none)),(.val (.pointer .none))]),(rg),(.map ⟨true,[(.int .i64),(.int .u32),(.int .u32),(.int .i64),(.int .i64)]⟩ (lk) (es) (ck)),(.cells [(.val (.int .i64 20)),(.val (.int .i64 100)),(.val (.int .i64 (now))),(.map 5),(.ptr 4 0),(.val (.int .i64 (came))),(.val (.int .i64 (went)))]),(pm),(.cells [(.val (.int .i64 (n))),(.map 7)]),(sm),(rm),(.cells [(.map 9),(.map 10)]),(u),(q),(r),(.cells [(.ptr 6 0),(.ptr 8 0),(.ptr 11 0),(.ptr 12 0),(.ptr 13 0),(.ptr 14 0)])]++(aB x++ [(.cells [(.val (.int .i64 (fst f))),(.val (.int .u32 (fst (snd f)))),(.val (.int .u32 (fst (snd (snd f))))),(.val (.int .i64 (fst (snd (snd (snd f)))))),(.val (.int .i64 (snd (snd (snd (snd f))))))])]),[]⟩ [] 169))
 else Q (.exit 4) (Bn (Wd.F w) (↑(length (Wd.F w)):Int) (↑j:Int)) ⟨[(o (0:Nat)),(o (1:Nat)),(.cells [(.val (.int .i64 (Wd.pc w))),(.vec 3 (Wd.B w) .none),(.vec 1 (Wd.U w) .none),(.vec 1 (Wd.D w) .none),(.vec 3 (Wd.S w) .none),(.vec 1 (Wd.C w) .none),(.vec 5 (Wd.F w) .none),(.vec 1 (Wd.W w) .none)]),(.cells [(.val (.pointer .none)),(.val (.pointer .none)),(.val (.pointer .none)),(.val (.pointer .none)),(.val (.pointer .none)),(.val (.pointer .none))]),(rg),(.map ⟨true,[(.int .i64),(.int .u32),(.int .u32),(.int .i64),(.int .i64)]⟩ (lk) (es) (ck)),(.cells [(.val (.int .i64 20)),(.val (.int .i64 100)),(.val (.int .i64 (now))),(.map 5),(.ptr 4 0),(.val (.int .i64 (came))),(.val (.int .i64 (went)))]),(pm),(.cells [(.val (.int .i64 (n))),(.map 7)]),(sm),(rm),(.cells [(.map 9),(.map 10)]),(u),(q),(r),(.cells [(.ptr 6 0),(.ptr 8 0),(.ptr 11 0),(.ptr 12 0),(.ptr 13 0),(.ptr 14 0)])]++(aB x++ []),[]⟩ [] 169):=by kernel_rfl
theorem K9 (n:Int)(Q:TV→VT→Prop):aH prog ae cT bx 300 bo 0 DR [.val (.int .i64 n)] jk Q=
 (bif decide (n<(1:Int))
 then Q (.val (.pointer .none)) jk
 else (bif decide (n>(100:Int))
 then Q (.val (.pointer .none)) jk
 else Q (.ptr 1 0) ⟨[(.map ⟨false,[(.int .i64)]⟩ (λ_=>.none) [] 0),(eo n (.map 0))],[]⟩)):=by kernel_rfl
theorem La (n:Int)(Q:TV→VT→Prop):aH prog ae cT bx 300 bo 0 DS [.val (.int .i64 n)] jk Q=
 (bif decide (n<(1:Int))
 then Q (.val (.pointer .none)) jk
 else (bif decide (n>(100:Int))
 then Q (.val (.pointer .none)) jk
 else Q dZ ⟨[(.cells [(ar n),ep])],[]⟩)):=by kernel_rfl
set_option maxRecDepth 100000
section
open Go.RowKit Go.Maps Go.Sort
section
variable {P:Program}{G:aD}
theorem n8 {c:Code}{n:Nat}{keys:List Nat}{vs0:List TV}{Pre:VT→Prop}{R:VT→KX→Prop}(h:∀T,Pre T→∀K,R T K→VWx P G none 0 c (ay n keys vs0) T [] K):∀rd ro σ T D K,wG n keys vs0 Pre R rd ro σ T D K→VWx P G rd ro c σ T D K:=by
 rintro rd ro σ T D K ⟨⟨rfl,rfl,rfl,hn,hp,hT⟩,hR⟩
 exact dA (ad:= []) (T0:=T) (R:=R T) (h T hT) none 0 σ T [] K ⟨⟨rfl,rfl,rfl,trivial,rfl,hn,hp⟩,hR⟩
theorem yR (hG:nL G){f:FuncId}{xs ys:List TV}{T:VT}{k:Nat}{o:VO}(ho:T.objs[k]?=some o)(hl:o.live=true)(hr:∀f g,o.ren f g=o)(hy:av (aj [k]) (aj []) ys=xs){R:TV→VO→Prop}(hR:∀x o',R x o'→(∀f g,x.ren f g=x)∧∀f g,o'.ren f g=o')
  (hv:VCx P G 0 f xs ⟨[o],[]⟩ λx T'=>∃o',R x o'∧T'=⟨[o'],[]⟩):VCx P G 0 f ys T λx T'=>∃o',R x o'∧T'={T with objs:=T.objs.set k o' }:=by
 have hg:T.give [k] []=⟨[o],[]⟩:=by simp only [VT.give,map_cons,map_nil,ho,getD_some,hr]
 refine (VCx.lift (xs:=xs) [k] [] hG (by simp) nodup_nil (λj hj=> ?_) (by simp) (λ_ _=>zero_le _) hy (by rw [hg];exact hv) (λx T' hq=> ?_)).mono ?_
 ·obtain rfl:=mem_singleton.1 hj;exact ⟨_,ho,hl⟩
 ·obtain ⟨o',_,rfl⟩:=hq;exact ⟨le_refl 1,zero_le _⟩
 ·rintro x T' ⟨y,T2,⟨o',h,rfl⟩,rfl,rfl⟩
  obtain ⟨h1,h2⟩:=hR _ _ h
  refine ⟨o',by rw [h1];exact h,?_⟩
  simp only [VT.back,map_cons,map_nil,h2,aT,append_nil]
end
def PiD (m:VO):Prop:=∃lk es ck S st,m=.map kI lk es ck∧PoOk lk es ck S st
def QiD (n:Int)(m:VO):Prop:=∃L:List Mb,j9 L∧m=jS n (L.map aF)
def RiD (m:VO):Prop:=∃S R,lH S R∧m=mO ((br S R).map aX)
def UiD (m:VO):Prop:=∃(L:List En) (c g:Int),F8 L∧m=uO 0 (L.map aO) c g
def SiD (m k:VO):Prop:=∃lk es ck lk2 es2 ck2 S R st,m=.map kI lk es ck∧k=.map kI lk2 es2 ck2∧SitesOk lk es ck S st∧RepsOk lk2 es2 R
theorem PiD.ren {m:VO}(h:PiD m)(f g:Nat→Option Nat):m.ren f g=m:=by obtain ⟨_,_,_,_,_,rfl,h⟩:=h;exact h.ren f g
theorem QiD.ren {n:Int}{m:VO}(h:QiD n m)(f g:Nat→Option Nat):m.ren f g=m:=by obtain ⟨_,_,rfl⟩:=h;exact qz f g n _
theorem RiD.ren {m:VO}(h:RiD m)(f g:Nat→Option Nat):m.ren f g=m:=by obtain ⟨_,_,_,rfl⟩:=h;exact tG f g _
theorem UiD.ren {m:VO}(h:UiD m)(f g:Nat→Option Nat):m.ren f g=m:=by obtain ⟨_,_,_,_,rfl⟩:=h;exact pE f g _ _ _ _
theorem SiD.ren1 {m k:VO}(h:SiD m k)(f g:Nat→Option Nat):m.ren f g=m:=by obtain ⟨_,_,_,_,_,_,_,_,_,rfl,_,h,_⟩:=h;exact h.ren f g
theorem SiD.ren2 {m k:VO}(h:SiD m k)(f g:Nat→Option Nat):k.ren f g=k:=by obtain ⟨_,_,_,_,_,ck2,_,_,_,_,rfl,_,h⟩:=h;exact h.ren ck2 f g
theorem yS {f:FuncId}{xs ys:List TV}(hy:av (aj [8,7]) (aj []) ys=xs)(hv:∀n lk es ck S st,PoOk lk es ck S st→VCx prog ae 0 f xs (pT n lk es ck) λx T'=>∃S',vM n S' x T'){T:VT}{n:Int}{m:VO}(h8:T.objs[8]?=some (.cells [.val (.int .i64 n),.map 7]))(h7:T.objs[7]?=some m)(hm:PiD m){K:TV→VT→Prop}
  (hk:∀(e:Int) (m':VO),PiD m'→K (.val (.int .i64 e)) {T with objs:=T.objs.set 7 m' }):VCx prog ae 0 f ys T K:=by
 obtain ⟨lk,es,ck,S,st,rfl,h⟩:=hm
 refine (BC h h8 h7 hy (R:=λx a b c=>∃e S' st',x=.val (.int .i64 e)∧PoOk a b c S' st') (λx a b c hr=>by obtain ⟨e,_,_,rfl,_⟩:=hr;exact λ_ _=>rfl) ((hv n lk es ck S st h).mono ?_)).mono ?_
 ·rintro x T' ⟨S',e,a,b,c,st',rfl,rfl,h'⟩
  exact ⟨a,b,c,rfl,⟨S',st',h'⟩,e,S',st',rfl,h'⟩
 ·rintro x T' ⟨a,b,c,⟨e,S',st',rfl,h'⟩,rfl⟩
  exact hk e _ ⟨a,b,c,S',st',rfl,h'⟩
theorem JF:∀ro ys T K,Gn PiD ro ys T K→VCx prog ae ro CS ys T K:=by
 intro ro ys T K h
 unfold Gn at h
 split at h
 ·rename_i i a c n m h8 h7
  obtain ⟨⟨rfl,hm⟩,hk⟩:=h
  exact yS (xs:= [.ptr 0 0,.agg (bd (i,a,c))]) rfl (λn lk es ck S st h=>IE h (i,a,c)) h8 h7 hm hk
 ·exact h.elim
theorem Lb:∀ro ys T K,v8 PiD ro ys T K→VCx prog ae ro tp ys T K:=by
 intro ro ys T K h
 unfold v8 at h
 split at h
 ·rename_i z q n m h8 h7
  obtain ⟨⟨rfl,hm⟩,hk⟩:=h
  exact yS (xs:= [.ptr 0 0,.val (.int .i64 z),.val (.bool q)]) rfl (λn lk es ck S st h=>(C1 h q z).mono λx T' hq=>⟨_,hq⟩) h8 h7 hm hk
 ·exact h.elim
theorem Lc:∀ro ys T K,v8 PiD ro ys T K→VCx prog ae ro x9 ys T K:=by
 intro ro ys T K h
 unfold v8 at h
 split at h
 ·rename_i z q n m h8 h7
  obtain ⟨⟨rfl,hm⟩,hk⟩:=h
  exact yS (xs:= [.ptr 0 0,.val (.int .i64 z),.val (.bool q)]) rfl (λn lk es ck S st h=>(C2 h q z).mono λx T' hq=>⟨_,hq⟩) h8 h7 hm hk
 ·exact h.elim
theorem BU {f:FuncId}{xs ys:List TV}{n:Int}(hy:av (aj [13]) (aj []) ys=xs)(hv:∀L,j9 L→VCx prog ae 0 f xs (b8 n (L.map aF) []) (Ab n)){T:VT}{m:VO}(h13:T.objs[13]?=some m)(hm:QiD n m){K:TV→VT→Prop}
  (hk:∀(e:Int) (m':VO),QiD n m'→K (.val (.int .i64 e)) {T with objs:=T.objs.set 13 m' }):VCx prog ae 0 f ys T K:=by
 have hr:=hm.ren
 obtain ⟨L,hL,rfl⟩:=hm
 refine (yR bg h13 rfl hr hy (R:=λx o'=>(∃e,x=.val (.int .i64 e))∧QiD n o') (λx o' h=>⟨by obtain ⟨⟨e,rfl⟩,_⟩:=h;exact λ_ _=>rfl,h.2.ren⟩) ((hv L hL).mono ?_)).mono ?_
 ·rintro x T' ⟨L',⟨h1,h2⟩,rfl⟩
  exact ⟨_,⟨h2,L',h1,rfl⟩,rfl⟩
 ·rintro x T' ⟨o',⟨⟨e,rfl⟩,h⟩,rfl⟩
  exact hk e o' h
theorem Ld (n:Int):∀ro ys T K,Gp (QiD n) ro ys T K→VCx prog ae ro pC ys T K:=by
 intro ro ys T K h
 unfold Gp at h
 split at h
 ·rename_i i a c m h13
  obtain ⟨⟨rfl,hm⟩,hk⟩:=h
  exact BU (xs:= [.ptr 0 0,.agg (bd (i,a,c))]) rfl (λL hL=>Jg n L hL (i,a,c)) h13 hm hk
 ·exact h.elim
theorem Mk (n:Int):∀ro ys T K,wa (QiD n) ro ys T K→VCx prog ae ro Dg ys T K:=by
 intro ro ys T K h
 unfold wa at h
 split at h
 ·rename_i z q m h13
  obtain ⟨⟨rfl,hm⟩,hk⟩:=h
  exact BU (xs:= [.ptr 0 0,.val (.int .i64 z),.val (.bool q)]) rfl (λL hL=>Je n L hL z q) h13 hm hk
 ·exact h.elim
theorem Ml (n:Int):∀ro ys T K,wa (QiD n) ro ys T K→VCx prog ae ro Dh ys T K:=by
 intro ro ys T K h
 unfold wa at h
 split at h
 ·rename_i z q m h13
  obtain ⟨⟨rfl,hm⟩,hk⟩:=h
  exact BU (xs:= [.ptr 0 0,.val (.int .i64 z),.val (.bool q)]) rfl (λL hL=>Jf n L hL z q) h13 hm hk
 ·exact h.elim
theorem Gy {lk lk2:Value→Option TV}{es es2:Es}{ck ck2:Nat}{S:List aN}{st:List Nat}{R:cP}(h:SitesOk lk es ck S st)(h2:RepsOk lk2 es2 R){T:VT}(hi:T.objs[11]?=some (.cells [.map 9,.map 10]))(hj:T.objs[9]?=some (.map kI lk es ck))(hk:T.objs[10]?=some (.map kI lk2 es2 ck2)){f:FuncId}{xs ys:List TV}(hy:av (aj [11,9,10]) (aj []) ys=xs)
  {X:TV→Prop} (hX:∀x,X x→∀f g,x.ren f g=x) (hv:VCx prog ae 0 f xs (sT lk lk2 es es2 ck ck2) λx T'=>X x∧∃S' R',tq S' R' T'):
  VCx prog ae 0 f ys T λx T'=>X x∧∃m' k',SiD m' k'∧T'={T with objs:=(T.objs.set 9 m').set 10 k' }:=by
 have q1:=h.ren (aj [11,9,10]) (aj [])
 have q2:=h2.ren ck2 (aj [11,9,10]) (aj [])
 have hg:T.give [11,9,10] []=sT lk lk2 es es2 ck ck2:=by
  simp only [VT.give,map_cons,map_nil,hi,hj,hk,getD_some,q1,q2,sT]
  rfl
 refine (VCx.lift (xs:=xs) [11,9,10] [] bg (by decide) nodup_nil (λk hk'=> ?_) (by simp) (λ_ _=>zero_le _) hy (by rw [hg];exact hv) (λx T' hq=> ?_)).mono ?_
 ·simp only [mem_cons,not_mem_nil,or_false] at hk'
  rcases hk' with rfl | rfl | rfl
  ·exact ⟨_,hi,rfl⟩
  ·exact ⟨_,hj,rfl⟩
  ·exact ⟨_,hk,rfl⟩
 ·obtain ⟨_,_,_,_,_,_,_,_,_,_,rfl,_⟩:=hq;exact ⟨le_refl 3,zero_le _⟩
 ·rintro x T' ⟨y,T2,⟨hx,S',R',ka,kb,ea,eb,ca,cb,st',rfl,h',h2'⟩,rfl,rfl⟩
  refine ⟨by rw [hX _ hx];exact hx,.map kI ka ea ca,.map kI kb eb cb,⟨ka,ea,ca,kb,eb,cb,S',R',st',rfl,rfl,h',h2'⟩,?_⟩
  have r1:=h'.ren (an T.objs.length [11,9,10]) (an T.tails.length [])
  have r2:=h2'.ren cb (an T.objs.length [11,9,10]) (an T.tails.length [])
  have e1:VO.ren (an T.objs.length [11,9,10]) (an T.tails.length []) (.cells [.map 1,.map 2])=.cells [.map 9,.map 10]:=by simp [VO.ren,av,TV.ren,an]
  simp only [VT.back,sT,map_cons,map_nil,r1,r2,e1,aT]
  rw [fA hi]
  simp [aT]
theorem Le:∀ro ys T K,Gq SiD ro ys T K→VCx prog ae ro CN ys T K:=by
 intro ro ys T K h
 unfold Gq at h
 split at h
 ·rename_i i a c m k h11 h9 h10
  obtain ⟨⟨rfl,hm⟩,hk⟩:=h
  obtain ⟨lk,es,ck,lk2,es2,ck2,S,R,st,rfl,rfl,g1,g2⟩:=hm
  refine (Gy g1 g2 h11 h9 h10 (xs:= [.ptr 0 0,iH (i,a,c)]) rfl (X:=λx=>∃e,x=.val (.int .i64 e)) (λx hx=>by obtain ⟨e,rfl⟩:=hx;exact λ_ _=>rfl) ((Iw ⟨_,_,_,_,_,_,_,rfl,g1,g2⟩ (i,a,c)).mono ?_)).mono ?_
  ·rintro x T' ⟨rfl,h'⟩
   exact ⟨⟨_,rfl⟩,_,_,h'⟩
  ·rintro x T' ⟨⟨e,rfl⟩,m',k',h',rfl⟩
   exact hk e m' k' h'
 ·exact h.elim
theorem Lf:∀ro ys T K,Gs SiD ro ys T K→VCx prog ae ro CO ys T K:=by
 intro ro ys T K h
 unfold Gs at h
 split at h
 ·rename_i i c u m k h11 h9 h10
  obtain ⟨⟨rfl,hm⟩,hk⟩:=h
  obtain ⟨lk,es,ck,lk2,es2,ck2,S,R,st,rfl,rfl,g1,g2⟩:=hm
  refine (Gy g1 g2 h11 h9 h10 (xs:= [.ptr 0 0,.val (.int .i64 i),.val (.int .i64 c),.val (.int .i64 u)]) rfl (X:=λx=>∃e,x=.val (.int .i64 e)) (λx hx=>by obtain ⟨e,rfl⟩:=hx;exact λ_ _=>rfl) ((Iu ⟨_,_,_,_,_,_,_,rfl,g1,g2⟩ i c u).mono ?_)).mono ?_
  ·rintro x T' ⟨rfl,h'⟩
   exact ⟨⟨_,rfl⟩,_,_,h'⟩
  ·rintro x T' ⟨⟨e,rfl⟩,m',k',h',rfl⟩
   exact hk e m' k' h'
 ·exact h.elim
theorem Hz {S:List aN}{R:cP}(g:lH S R)(t:aN):lH (jO S t) R:=by
 unfold jO
 cases hb:fJ S t==0 with
 |false=>exact g
 |true=>
  rw [cond_true]
  have h0:fJ S t=0:=by simpa using hb
  have hc:0≤t.1∧t.1≤255∧t.2.1≠0∧0≤t.2.2∧t.2.2≤1000000:=Decidable.byContradiction λhc=>by
   simp only [fJ,decide_eq_false hc,Bool.not_false,cond_true] at h0
   exact absurd h0 (by decide)
  have hh:eQ S t.1=false:=by
   cases hb2:eQ S t.1 with
   |false=>rfl
   |true=>
    simp only [fJ,hb2,decide_eq_true hc,Bool.not_true,cond_false,cond_true] at h0
    exact absurd h0 (by decide)
  have h8:¬8≤S.length:=λh8=>by
   simp only [fJ,hh,decide_eq_true hc,decide_eq_true h8,Bool.not_true,cond_false,cond_true] at h0
   exact absurd h0 (by decide)
  have hn:S.find? (λs=>s.1==t.1)=none:=by
   unfold eQ at hh
   cases hf:S.find? λs=>s.1==t.1 with
   |none=>rfl
   |some s=>rw [hf] at hh;cases hh
  exact {
   nd:=by
    rw [map_append]
    refine List.nodup_append.2 ⟨g.nd,by simp,λa ha b hb e=> ?_⟩
    obtain ⟨s,hs,rfl⟩:=mem_map.1 ha
    have hb':b=t.1:=by simpa using hb
    have:=find?_eq_none.1 hn s hs
    simp [e,hb'] at this
   few:=by simp;omega
   gone:=λi hi=>g.gone i (by
    rw [List.find?_append] at hi
    cases hf:S.find? λs=>s.1==i with
    |none=>rfl
    |some s=>rw [hf] at hi;simp at hi)}
theorem Gz {f:FuncId}{xs ys:List TV}(hy:av (aj [14]) (aj []) ys=xs){T:VT}{m:VO}(h14:T.objs[14]?=some m)(hm:RiD m)(hv:∀S R,lH S R→VCx prog ae 0 f xs ⟨[.cells [.vec 5 ((br S R).map aX) .none]],[]⟩ λx T'=>∃z mz,x=.val (.int .i64 z)∧T'=⟨[.cells [mz]],[]⟩∧∃S' R',lH S' R'∧mz=.vec 5 ((br S' R').map aX) .none){K:TV→VT→Prop}
  (hk:∀(e:Int) (m':VO),RiD m'→K (.val (.int .i64 e)) {T with objs:=T.objs.set 14 m' }):VCx prog ae 0 f ys T K:=by
 have hr:=hm.ren
 obtain ⟨S,R,g,rfl⟩:=hm
 refine (yR bg h14 rfl hr hy (R:=λx o'=>(∃e,x=.val (.int .i64 e))∧RiD o') (λx o' h=>⟨by obtain ⟨⟨e,rfl⟩,_⟩:=h;exact λ_ _=>rfl,h.2.ren⟩) ((hv S R g).mono ?_)).mono ?_
 ·rintro x T' ⟨z,mz,rfl,rfl,S',R',g',rfl⟩
  exact ⟨_,⟨⟨z,rfl⟩,S',R',g',rfl⟩,rfl⟩
 ·rintro x T' ⟨o',⟨⟨e,rfl⟩,h⟩,rfl⟩
  exact hk e o' h
theorem Lg:∀ro ys T K,Gt RiD ro ys T K→VCx prog ae ro lG ys T K:=by
 intro ro ys T K h
 unfold Gt at h
 split at h
 ·rename_i i a c m h14
  obtain ⟨⟨rfl,hm⟩,hk⟩:=h
  refine Gz (xs:= [.ptr 0 0,.agg (dd i a c)]) rfl h14 hm (λS R g=>(Hx g (i,a,c)).mono ?_) hk
  rintro x T' ⟨z,mz,rfl,rfl,_,rfl⟩
  exact ⟨z,_,rfl,rfl,_,_,Hz g _,rfl⟩
 ·exact h.elim
end
set_option maxRecDepth 100000
section
open Go.RowKit Go.Maps Go.Sort
theorem HA {S:List aN}{R:cP}(g:lH S R)(i c u:Int):lH S (lm S R i c u):=by
 unfold lm
 cases hb:hP S i c u==0 with
 |false=>exact g
 |true=>
  rw [cond_true]
  have h0:hP S i c u=0:=by simpa using hb
  have hh:eQ S i=true:=by
   cases hb2:eQ S i with
   |true=>rfl
   |false=>simp [hP,hb2] at h0
  exact {
   nd:=g.nd
   few:=g.few
   gone:=λz hz=>by
    have hzi:(z==i)=false∧(i==z)=false:=by
     by_cases e:z=i
     ·subst e
      unfold eQ at hh
      rw [hz] at hh;cases hh
     ·exact ⟨by simpa using e,by simpa using λe2=>e e2.symm⟩
    simp only [j5,hzi.1,hzi.2,cond_false]
    exact g.gone z hz}
theorem Lh:∀ro ys T K,Gu RiD ro ys T K→VCx prog ae ro yK ys T K:=by
 intro ro ys T K h
 unfold Gu at h
 split at h
 ·rename_i i c u m h14
  obtain ⟨⟨rfl,hm⟩,hk⟩:=h
  refine Gz (xs:= [.ptr 0 0,.val (.int .i64 i),.val (.int .i64 c),.val (.int .i64 u)]) rfl h14 hm (λS R g=>(Hy g i c u).mono ?_) hk
  rintro x T' ⟨z,mz,rfl,rfl,_,rfl⟩
  exact ⟨z,_,rfl,rfl,_,_,HA g _ _ _,rfl⟩
 ·exact h.elim
theorem GA:∀ro ys T K,uU UiD ro ys T K→VCx prog ae ro yx ys T K:=by
 intro ro ys T K h
 unfold uU at h
 split at h
 ·rename_i p s d sp dp b m h12
  obtain ⟨⟨rfl,hm⟩,hk⟩:=h
  have hr:=hm.ren
  obtain ⟨L,c,g,hL,rfl⟩:=hm
  refine (yR bg h12 rfl hr (xs:= [.ptr 0 0,.agg (au (p,s,d,sp,dp)),.val (.int .i64 b),.val (.int .i64 0)]) rfl (R:=λx o'=>(∃(e:En) (q:Bool),x=.tup [.agg (aO e),.val (.bool q)])∧UiD o') (λx o' h=>⟨by obtain ⟨⟨e,q,rfl⟩,_⟩:=h;exact λ_ _=>rfl,h.2.ren⟩) ((Jm c g L hL (p,s,d,sp,dp) b).mono ?_)).mono ?_
  ·rintro x T' ⟨e,q,L',c',g',rfl,hL',rfl⟩
   exact ⟨_,⟨⟨e,q,rfl⟩,L',c',g',hL',rfl⟩,rfl⟩
  ·rintro x T' ⟨o',⟨⟨e,q,rfl⟩,h⟩,rfl⟩
   exact hk e q o' h
 ·exact h.elim
structure pP (w:Wd):Prop where
 B:∃l:List Bk,w.B=l.map bd∧l.length≤40
 U:∃l:List Bool,w.U=l.map λb=> [.val (.bool b)]
 D:∃l:List Bool,w.D=l.map λb=> [.val (.bool b)]
 S:∃l:List Bk,w.S=l.map bd∧l.length≤40
 C:∃l:List Int,w.C=l.map λz=> [.val (.int .i64 z)]
 F:∃l:List Fl,w.F=l.map au∧l.length≤100
 W:∃l:List Int,w.W=l.map λz=> [.val (.int .i64 z)]
theorem ez {α:Type}(c:α→List TV)(hc:∀a f g,av f g (c a)=c a)(f g:Nat→Option Nat):∀l:List α,bL f g (l.map c)=l.map c
 |[]=>rfl
 |a::l=>by simp only [map_cons,bL,hc,ez c hc f g l]
theorem yT {w:Wd}(h:pP w)(f g:Nat→Option Nat):VO.ren f g (.cells w.cells)=.cells w.cells:=by
 obtain ⟨lB,hB,_⟩:=h.B
 obtain ⟨lU,hU⟩:=h.U
 obtain ⟨lD,hD⟩:=h.D
 obtain ⟨lS,hS,_⟩:=h.S
 obtain ⟨lC,hC⟩:=h.C
 obtain ⟨lF,hF,_⟩:=h.F
 obtain ⟨lW,hW⟩:=h.W
 simp only [Wd.cells,VO.ren,av,TV.ren,Tok.ren,hB,hU,hD,hS,hC,hF,hW,ez bd (λ_ _ _=>rfl),ez au (λ_ _ _=>rfl),ez (λb:Bool=> [TV.val (.bool b)]) (λ_ _ _=>rfl),ez (λz:Int=> [TV.val (.int .i64 z)]) (λ_ _ _=>rfl)]
def uS (o:Nat→VO):Prop:=∀i,i<7→∀f g:Nat→Option Nat,(o i).ren f g=o i
section
variable {o:Nat→VO}{w:Wd}{n:Int}{pm sm rm u q r:VO}
theorem tH (ho:uS o)(hw:pP w)(hp:∀f g,pm.ren f g=pm)(hs:∀f g,sm.ren f g=sm)(hrm:∀f g,rm.ren f g=rm)(hu:∀f g,u.ren f g=u)(hq:∀f g,q.ren f g=q)(hr:∀f g,r.ren f g=r):fR (fk o w n pm sm rm u q r):=by
 intro i hi f g h16
 match i,hi with
 | 0,_=>exact ho 0 (by decide) f g
 | 1,_=>exact ho 1 (by decide) f g
 | 2,_=>exact yT hw f g
 | 3,_=>rfl
 | 4,_=>exact ho 4 (by decide) f g
 | 5,_=>exact ho 5 (by decide) f g
 | 6,_=>exact ho 6 (by decide) f g
 | 7,_=>exact hp f g
 | 8,_=>simp only [fk,VO.ren,av,TV.ren,h16 7 (by decide)]
 | 9,_=>exact hs f g
 | 10,_=>exact hrm f g
 | 11,_=>simp only [fk,VO.ren,av,TV.ren,h16 9 (by decide),h16 10 (by decide)]
 | 12,_=>exact hu f g
 | 13,_=>exact hq f g
 | 14,_=>exact hr f g
 | 15,_=>simp only [fk,bO,VO.ren,av,TV.ren,h16 6 (by decide),h16 8 (by decide),h16 11 (by decide),h16 12 (by decide),h16 13 (by decide),h16 14 (by decide)]
 |k+16,hi=>omega
theorem LW:FlS 0 Al (λ_=>none) [] (λ_=>.gone) where
 hn:=zero_le _
 ring:=λp hp=>by
  have:p=4:=by unfold bU at hp;omega
  subst this
  exact ⟨((0,0,0,0,0),0,0),4,4,rfl,.inl rfl,.inl rfl⟩
 none:=λ_ _=>rfl
 map:=λ_ _ h=>by cases h
 ents:=λ_ h=>by cases h
theorem JG {O:Nat→VO}{rg:VO}{lk:Value→Option TV}{es:Es}{ck:Nat}{now came went:Int}{x:Nat→VO}{n:Nat}(h:FlS n rg lk es x)(ho:fR O)(f g:Nat→Option Nat)(hf:∀j,j<16+n→f j=some j):(cj O rg lk es ck now came went).map (VO.ren f g)=cj O rg lk es ck now came went:=by
 have h1:=ni (ck:=ck) (now:=now) (came:=came) (went:=went) h ho f g hf
 have h2:=congrArg (List.take 16) h1
 rw [map_append,take_left' (by rw [length_map,bB]),take_left' bB] at h2
 exact h2
theorem Am (hO:fR (fk o w n pm sm rm u q r))(l:List VO):VT.keep ⟨cj (fk o w n pm sm rm u q r) Al (λ_=>none) [] 0 0 0 0++l,[]⟩ 16 0=i7 o w n pm sm rm u q r:=by
 simp only [VT.keep,i7]
 rw [take_left' bB,JG LW hO _ _ λj hj=>fQ (by omega)]
 rfl
theorem n9 {t e:TypeId}{x i:Operand}{l:List (Nat × TV)}{L:List (List TV)}{tok:Tok}{k:IntKind}{z:Int}{a:List TV}{inf:TypeInfo}{m:Nat}(ht:prog.underlying t=some (.slice e))(hi:prog.info? e=some inf)(hm:inf.size=m)(hx:aq ae l x=.vec m L tok)(hz:aq ae l i=.val (.int k z))(h0:0≤z)(he:L[z.toNat]?=some a):aJ prog ae (.indexAddr t x i) l (.elt a):=
 dN (inf:=inf) ht hi (by rw [hm];exact hx) hz h0 he
theorem JH:∃inf:TypeInfo,prog.info? 4=some inf∧inf.size=1:=⟨(prog.info? 4).getD default,by kernel_rfl,by kernel_rfl⟩
theorem gU {x i:Operand}{l:List (Nat × TV)}{L:List (List TV)}{tok:Tok}{k:IntKind}{z:Int}{a:List TV}(hx:aq ae l x=.vec 1 L tok)(hz:aq ae l i=.val (.int k z))(h0:0≤z)(he:L[z.toNat]?=some a):aJ prog ae (.indexAddr 23 x i) l (.elt a):=by
 obtain ⟨inf,i1,i2⟩:=JH
 exact n9 Tryz.underlying23 i1 i2 hx hz h0 he
theorem Fu {x i:Operand}{l:List (Nat × TV)}{L:List (List TV)}{tok:Tok}{k:IntKind}{z:Int}{a:List TV}(hx:aq ae l x=.vec 3 L tok)(hz:aq ae l i=.val (.int k z))(h0:0≤z)(he:L[z.toNat]?=some a):aJ prog ae (.indexAddr 24 x i) l (.elt a):=by
 obtain ⟨inf,i1,i2,_⟩:=nS
 exact n9 Tryz.underlying24 i1 i2 hx hz h0 he
theorem pQ {m:Nat}{B:Bs}(hB:∀f g,bL f g B=B)(f g:Nat→Option Nat)(hf:f 2=some 2∧f 3=some 3∧f 15=some 15)(j:Int):av f g (mV m B j)=mV m B j:=by
 simp only [mV,av,TV.ren,hf.1,hf.2.1,hf.2.2,hB,Tok.ren]
theorem tI (l:List Bk)(f g:Nat→Option Nat):bL f g (l.map bd)=l.map bd:=ez bd (λ_ _ _=>rfl) f g l
theorem DV:ai 16 2=some 2∧ai 16 3=some 3∧ai 16 15=some 15:=⟨rfl,rfl,rfl⟩
theorem HD (ho:uS o)(hw:pP w)(n:Int):∀T,T=i7 o w n dc dc dc JB (.cells [.val (.int .i64 n),nZ]) (.cells [nZ])→∀K:KX,(∀pm q u r,PiD pm→QiD n q→UiD u→RiD r→K .normal (ay 169 wb (mV 3 w.B w.B.length)) (JC T pm q u r) [])→VWx prog ae none 0 (ax prog eR 0) (ay 169 wb (mV 3 w.B 0)) T [] K:=by
 rintro T rfl K hK
 obtain ⟨lB,hB,hlB⟩:=hw.B
 obtain ⟨lU,hU⟩:=hw.U
 obtain ⟨lD,hD⟩:=hw.D
 have p0:PiD dc:=⟨λ_=>none,[],0,[],[],rfl,{m:={look:=rfl,ents:=rfl,slen:=rfl,nd:=nodup_nil,ids:=(by simp),born:=(by simp),borns:=nodup_nil},ok:={few:=zero_le _,nd:=nodup_nil,wt:=(by simp)}}⟩
 have q0:QiD n (jS n []):=⟨[],zero_le _,rfl⟩
 have u0:UiD (uO 0 [] 0 0):=⟨[],0,0,zero_le _,rfl⟩
 have r0:RiD (mO []):=⟨[],λ_=>none,{nd:=nodup_nil,few:=zero_le _,gone:=λ_ _=>rfl},by simp [br,bD,bW]⟩
 have hx:∀f g,VO.ren f g dc=dc:=p0.ren
 refine VWx.nilAt (i:=13) (j:=1) (size:=5) rfl rfl (VWx.nilAt (i:=12) (j:=3) (size:=7) rfl rfl (VWx.nilAt (i:=14) (j:=0) (size:=5) rfl rfl ?_))
 show VWx prog ae none 0 (ax prog eR 0) (ay 169 wb (mV 3 w.B 0)) (i7 o w n dc dc dc (uO 0 [] 0 0) (jS n []) (mO [])) [] K
 refine fv (ι:=Nat × VO × VO) (f:=eR) (id:=0) (by kernel_rfl) 169 wb (λs=>lB.length-s.1) (λs=>mV 3 w.B s.1) (λs=>i7 o w n s.2.1 dc dc (uO 0 [] 0 0) s.2.2 (mO [])) (λs=>s.1≤lB.length∧PiD s.2.1∧QiD n s.2.2) 16 0 (λ_ _=>⟨le_refl _,le_refl _⟩)
  (λe vs T=>e=.normal∧vs=mV 3 w.B w.B.length∧∃pm q,PiD pm∧QiD n q∧T=i7 o w n pm dc dc (uO 0 [] 0 0) q (mO [])) (λs hs=> ?_) (0,dc,jS n []) ⟨zero_le _,p0,q0⟩ K (λe vs T hq=> ?_)
 ·obtain ⟨j,pm,q⟩:=s
  obtain ⟨hj,hp,hq⟩:=hs
  simp only at hj hp hq
  have hC:aQ prog ae (az [(CS,Gn PiD),(tp,v8 PiD),(x9,v8 PiD),(pC,Gp (QiD n)),(Dg,wa (QiD n)),(Dh,wa (QiD n))]):=aE λp hp=>by
   simp only [mem_cons,not_mem_nil,or_false] at hp
   rcases hp with rfl | rfl | rfl | rfl | rfl | rfl
   ·exact JF
   ·exact Lb
   ·exact Lc
   ·exact Ld n
   ·exact Mk n
   ·exact Ml n
  have hlen:w.B.length=lB.length:=by rw [hB,length_map]
  by_cases hlt:j<lB.length
  ·obtain ⟨b,hb⟩:∃b,lB[j]?=some b:=⟨_,getElem?_eq_getElem hlt⟩
   have hwr:=fV j (by omega)
   have hb':w.B[j]?=some (bd b):=by rw [hB,getElem?_map,hb];rfl
   have fin:∀pm q,PiD pm→QiD n q→∀l,qt 169 0 (λs:Nat × VO × VO=>lB.length-s.1) (λs=>mV 3 w.B s.1) (λs=>i7 o w n s.2.1 dc dc (uO 0 [] 0 0) s.2.2 (mO [])) (λs=>s.1≤lB.length∧PiD s.2.1∧QiD n s.2.2) 16 0 (j,pm,q) (λe vs T=>e=.normal∧vs=mV 3 w.B w.B.length∧∃pm q,PiD pm∧QiD n q∧T=i7 o w n pm dc dc (uO 0 [] 0 0) q (mO [])) .normal (mV 3 w.B (wrap i64 ((j:Int)+1))) ⟨cj (fk o w n pm dc dc (uO 0 [] 0 0) q (mO [])) Al (λ_=>none) [] 0 0 0 0++l,[]⟩ [] 169:=λpm q hp hq l=>by
    refine ⟨rfl,rfl,(j+1,pm,q),⟨hlt,hp,hq⟩,by simp only;omega,.inr ⟨?_,?_⟩⟩
    ·exact Am (tH ho hw hp.ren hx hx u0.ren hq.ren r0.ren) l
    ·rw [hwr,hB]
     exact pQ (tI lB) _ _ DV _
   obtain ⟨b1,hb1⟩:∃b1,j<w.U.length→w.U[j]?=some [.val (.bool b1)]:=by
    by_cases h:j<lU.length
    ·exact ⟨lU[j],λ_=>by rw [hU,getElem?_map,getElem?_eq_getElem h];rfl⟩
    ·exact ⟨false,λh2=>by rw [hU,length_map] at h2;exact absurd h2 h⟩
   obtain ⟨b2,hb2⟩:∃b2,j<w.D.length→w.D[j]?=some [.val (.bool b2)]:=by
    by_cases h:j<lD.length
    ·exact ⟨lD[j],λ_=>by rw [hD,getElem?_map,getElem?_eq_getElem h];rfl⟩
    ·exact ⟨false,λh2=>by rw [hD,length_map] at h2;exact absurd h2 h⟩
   have hU1:decide ((j:Int)<(w.U.length:Int))=true→w.U[((j:Int)).toNat]?=some [.val (.bool b1)]:=λh=>by rw [toNat_natCast];exact hb1 (by simpa using h)
   have hD1:decide ((j:Int)<(w.D.length:Int))=true→w.D[((j:Int)).toNat]?=some [.val (.bool b2)]:=λh=>by rw [toNat_natCast];exact hb2 (by simpa using h)
   refine cn ah ag hC ak (Gv o w n pm dc dc (uO 0 [] 0 0) q (mO []) PiD (QiD n) b1 b2 false b.1 b.2.1 b.2.2 j _) ?_
   refine aZ (decide_eq_true (by rw [hlen];omega)) ⟨rV rfl rfl (natCast_nonneg _) (by rw [toNat_natCast];exact hb'),⟨rfl,hp⟩,λe1 m1 g1=>⟨⟨rfl,hq⟩,λe2 m2 g2=> ?_⟩⟩
   refine aL (λhu=>⟨gU rfl rfl (natCast_nonneg _) (hU1 hu),⟨rfl,g1⟩,λe3 m3 g3=>⟨gU rfl rfl (natCast_nonneg _) (hU1 hu),⟨rfl,g2⟩,λe4 m4 g4=> ?_⟩⟩) (λ_=> ?_)
   ·exact aL (λhd=>⟨gU rfl rfl (natCast_nonneg _) (hD1 hd),⟨rfl,g3⟩,λe5 m5 g5=>⟨gU rfl rfl (natCast_nonneg _) (hD1 hd),⟨rfl,g4⟩,λe6 m6 g6=>fin _ _ g5 g6 _⟩⟩) (λ_=>fin _ _ g3 g4 _)
   ·exact aL (λhd=>⟨gU rfl rfl (natCast_nonneg _) (hD1 hd),⟨rfl,g1⟩,λe5 m5 g5=>⟨gU rfl rfl (natCast_nonneg _) (hD1 hd),⟨rfl,g2⟩,λe6 m6 g6=>fin _ _ g5 g6 _⟩⟩) (λ_=>fin _ _ g1 g2 _)
  ·obtain rfl:j=lB.length:=by omega
   refine cn ah ag hC ak (Gv o w n pm dc dc (uO 0 [] 0 0) q (mO []) PiD (QiD n) false false false 0 0 0 lB.length _) ?_
   exact aA (decide_eq_false (by rw [hlen];omega)) ⟨rfl,rfl,rfl,by rw [←hlen];rfl,pm,q,hp,hq,rfl⟩
 ·obtain ⟨rfl,rfl,pm,q,hp,hq,rfl⟩:=hq
  exact hK pm q _ _ hp hq u0 r0
theorem HE (ho:uS o)(hw:pP w)(n:Int):∀T,(∃pm q u r,PiD pm∧QiD n q∧UiD u∧RiD r∧T=i7 o w n pm dc dc u q r)→∀K:KX,(∀sm rm r,SiD sm rm→RiD r→K .normal (ay 169 yQ (mV 3 w.S w.S.length)) (JD T sm rm r) [])→VWx prog ae none 0 (ax prog eR 2) (ay 169 yQ (mV 3 w.S 0)) T [] K:=by
 rintro T ⟨pm,q,u,r,hp,hq,hu,hr,rfl⟩ K hK
 obtain ⟨lS,hS,hlS⟩:=hw.S
 obtain ⟨lC,hC'⟩:=hw.C
 have s0:SiD dc dc:=⟨λ_=>none,[],0,λ_=>none,[],0,[],λ_=>none,[],rfl,rfl,{look:=rfl,ents:=rfl,slen:=rfl,nd:=nodup_nil,ids:=(by simp),born:=(by simp),borns:=nodup_nil,few:=zero_le _},{get:=λ_=>rfl,sh:=λ_ _ h=>(by cases h),ents:=(by simp)}⟩
 refine fv (ι:=Nat × VO × VO × VO) (f:=eR) (id:=2) (by kernel_rfl) 169 yQ (λs=>lS.length-s.1) (λs=>mV 3 w.S s.1) (λs=>i7 o w n pm s.2.1 s.2.2.1 u q s.2.2.2) (λs=>s.1≤lS.length∧SiD s.2.1 s.2.2.1∧RiD s.2.2.2) 16 0 (λ_ _=>⟨le_refl _,le_refl _⟩)
  (λe vs T=>e=.normal∧vs=mV 3 w.S w.S.length∧∃sm rm r,SiD sm rm∧RiD r∧T=i7 o w n pm sm rm u q r) (λs hs=> ?_) (0,dc,dc,r) ⟨zero_le _,s0,hr⟩ K (λe vs T hq=> ?_)
 ·obtain ⟨j,sm,rm,r⟩:=s
  obtain ⟨hj,hs,hr⟩:=hs
  simp only at hj hs hr
  have hC:aQ prog ae (az [(CN,Gq SiD),(CO,Gs SiD),(lG,Gt RiD),(yK,Gu RiD)]):=aE λp hp=>by
   simp only [mem_cons,not_mem_nil,or_false] at hp
   rcases hp with rfl | rfl | rfl | rfl
   ·exact Le
   ·exact Lf
   ·exact Lg
   ·exact Lh
  have hlen:w.S.length=lS.length:=by rw [hS,length_map]
  by_cases hlt:j<lS.length
  ·obtain ⟨b,hb⟩:∃b,lS[j]?=some b:=⟨_,getElem?_eq_getElem hlt⟩
   have hwr:=fV j (by omega)
   have hb':w.S[j]?=some (bd b):=by rw [hS,getElem?_map,hb];rfl
   have fin:∀sm rm r,SiD sm rm→RiD r→∀l,qt 169 2 (λs:Nat × VO × VO × VO=>lS.length-s.1) (λs=>mV 3 w.S s.1) (λs=>i7 o w n pm s.2.1 s.2.2.1 u q s.2.2.2) (λs=>s.1≤lS.length∧SiD s.2.1 s.2.2.1∧RiD s.2.2.2) 16 0 (j,sm,rm,r) (λe vs T=>e=.normal∧vs=mV 3 w.S w.S.length∧∃sm rm r,SiD sm rm∧RiD r∧T=i7 o w n pm sm rm u q r) .normal (mV 3 w.S (wrap i64 ((j:Int)+1))) ⟨cj (fk o w n pm sm rm u q r) Al (λ_=>none) [] 0 0 0 0++l,[]⟩ [] 169:=λsm rm r hs hr l=>by
    refine ⟨rfl,rfl,(j+1,sm,rm,r),⟨hlt,hs,hr⟩,by simp only;omega,.inr ⟨?_,?_⟩⟩
    ·exact Am (tH ho hw hp.ren hs.ren1 hs.ren2 hu.ren hq.ren hr.ren) l
    ·rw [hwr,hS]
     exact pQ (tI lS) _ _ DV _
   obtain ⟨c,hc⟩:∃c:Int,j<w.C.length→w.C[j]?=some [.val (.int .i64 c)]:=by
    by_cases h:j<lC.length
    ·exact ⟨lC[j],λ_=>by rw [hC',getElem?_map,getElem?_eq_getElem h];rfl⟩
    ·exact ⟨0,λh2=>by rw [hC',length_map] at h2;exact absurd h2 h⟩
   have hC1:decide ((j:Int)<(w.C.length:Int))=true→w.C[((j:Int)).toNat]?=some [.val (.int .i64 c)]:=λh=>by rw [toNat_natCast];exact hc (by simpa using h)
   refine cn ah ag hC ak (Gw o w n pm sm rm u q r SiD RiD b.1 b.2.1 b.2.2 c j _) ?_
   refine aZ (decide_eq_true (by rw [hlen];omega)) ⟨Fu rfl rfl (natCast_nonneg _) (by rw [toNat_natCast];exact hb'),⟨rfl,hs⟩,λe1 m1 k1 g1=>⟨⟨rfl,hr⟩,λe2 m2 g2=> ?_⟩⟩
   exact aL (λhu=>⟨ir rfl rfl (natCast_nonneg _) (hC1 hu),⟨rfl,g1⟩,λe3 m3 k3 g3=>⟨ir rfl rfl (natCast_nonneg _) (hC1 hu),⟨rfl,g2⟩,λe4 m4 g4=>fin _ _ _ g3 g4 _⟩⟩) (λ_=>fin _ _ _ g1 g2 _)
  ·obtain rfl:j=lS.length:=by omega
   refine cn ah ag hC ak (Gw o w n pm sm rm u q r SiD RiD 0 0 0 0 lS.length _) ?_
   exact aA (decide_eq_false (by rw [hlen];omega)) ⟨rfl,rfl,rfl,by rw [←hlen];rfl,sm,rm,r,hs,hr,rfl⟩
 ·obtain ⟨rfl,rfl,sm,rm,r,hs,hr,rfl⟩:=hq
  exact hK sm rm r hs hr
end
end
end Go.Proofs.YtgboehkdijjnkaaGreatDoor