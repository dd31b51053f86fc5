/-Part 4 of the proof of frameFeedsCard_holds:Vsyn,Vlz,Vfz ... No condition. -/
import Derived.Test.YtogbdjlelkepcaaGreatDoorFd1
import Derived.Test.YtogbdjlelkepcaaGreatDoorFd2
import Derived.Test.YtogbdjlelkepcaaGreatDoorFd3
set_option maxRecDepth 100000
namespace Go.Proofs.YtogbdjlelkepcaaGreatDoor
open Go.RowKit
open Go.BinOp (eql neq)
open _root_.BitVec (ofInt toNat toNat_ofNat toNat_or)
open _root_.Bool (and_eq_false_iff and_eq_true)
open Go.Calls (mono)
open _root_.Int (natCast_mul natCast_pow tdiv toNat_natCast)
open Go.IntKind (i64 signed u32 u64 wrap)
open _root_.List (drop length length_cons length_drop length_take map_cons map_nil mem_cons mem_singleton nodup_nil take_length take_succ_cons take_zero)
open _root_.Nat (beq ble le_of_ble_eq_true le_refl mod_eq_of_lt not_lt_zero zero_le)
open _root_.Option (map_eq_some_iff)
open Go.Proofs.Tryz (prog underlying22)
section
variable {P:Program}{G:aV}
def cA:TV→TV
 | .vec s es _=>.vec s es .none
 |x=>x
theorem sd {g:Gh}{w:World}{x:TV}{u:Value}(h:VR g w x u):VR g w (cA x) u:=by
 cases x with
 |vec s es t=>
  rcases h.vec_inv with ⟨rfl,rfl,h1⟩ | ⟨b,o,c,us,rfl,f1,f2,f3,f4,f5,f6,f7,f8⟩ | ⟨a,rfl,rfl,_⟩
  rotate_left 2
  ·exact .odd a trivial
  ·exact .nil trivial
  ·exact .mk_vec rfl f1 f2 f3 trivial f5 f6 f7 f8
 |_=>exact h
theorem wi {t e:TypeId}{x i:Operand}{l:List (Nat × TV)}{inf:TypeInfo}{es:List (List TV)}{tok:Tok}{k:IntKind}{z:Int}(ht:P.underlying t=some (.slice e))(hi:P.info? e=some inf)
  (hx:aL G l x=.vec inf.size es tok) (hz:aL G l i=.val (.int k z)) (h0:0≤z) (he:z.toNat≤es.length):ba P G (.slice t x none (some i) none) l (.vec inf.size (es.take z.toNat) .none):=by
 refine ⟨?_⟩
 simp [bu,hx,hz,iU,gp,ot,nh,ht,hi,fq,fp,h0,he]
theorem wj {t e:TypeId}{x i:Operand}{l:List (Nat × TV)}{inf:TypeInfo}{es:List (List TV)}{tok:Tok}{k:IntKind}{z:Int}(ht:P.underlying t=some (.slice e))(hi:P.info? e=some inf)
  (hx:aL G l x=.vec inf.size es tok) (hz:aL G l i=.val (.int k z)) (h0:0≤z) (he:z.toNat≤es.length):ba P G (.slice t x (some i) none none) l (.vec inf.size (es.drop z.toNat) tok):=by
 refine ⟨?_⟩
 simp [bu,hx,hz,iU,gp,ot,nh,ht,hi,fq,fp,h0,he]
theorem fb {ro:Nat}{T T1:VT}{t e tx:TypeId}{s x:Operand}{l:List (Nat × TV)}{inf:TypeInfo}{z:Value}{es es2:List (List TV)}{k n:Nat}{bn:Bool}(ht:P.underlying t=some (.slice e))(hi:P.info? e=some inf)(hz:inf.zero=some z)(hzs:z.cells.size=inf.size)(hp:0<inf.size)
  (hsl:gk (P.underlying tx)=true) (hs:cE T inf.size (aL G l s)=some (es,k,n,bn,T1)) (hx:gf inf.size (aL G l x)=some es2) (hb:(es.length+es2.length)*(inf.bytes+1)≤140737488355328):
  br P G ro T (.call ⟨.builtin .append,#[s,x],#[t,tx]⟩) l (.vec inf.size (es++es2) (.tail k (n+es2.length))) {T1 with tails:=T1.tails.set k (n+es2.length,inf.size,bn)}:=by
 refine .old rfl ?_
 have h1:iR P T t tx (aL G l s) (aL G l x)=some (.vec inf.size (es++es2) (.tail k (n+es2.length)),{T1 with tails:=T1.tails.set k (n+es2.length,inf.size,bn)}):=by
  simp [iR,ht,hi,hz,hs,hx,hzs,hp,hsl,hb]
 simp [vC,dV,jq,oH,h1]
end
section
variable {P:Program}{G:aV}
theorem VRs.loose {g:Gh}{w:World}{xs:List TV}{us:List Value}(h:VRs g w xs us):VRs g w (xs.map cA) us:=by
 refine ⟨by simpa using h.1,λj x u hx hu=> ?_⟩
 simp only [List.getElem?_map,map_eq_some_iff] at hx
 obtain ⟨y,hy,rfl⟩:=hx
 exact sd (h.2 j y u hy hu)
theorem VCx.loose {ro:Nat}{f:FuncId}{xs:List TV}{T:VT}{Q:TV→VT→Prop}(h:VCx P G ro f (xs.map cA) T Q):VCx P G ro f xs T Q:=λg w us r hG hx=>h g w us r hG hx.loose
theorem VCx.loosePure {ro:Nat}{f:FuncId}{xs ys:List TV}{T:VT}{y:TV}{K:TV→VT→Prop}(hv:dd G)(h:VCx P G 0 f xs ⟨[],[]⟩ λx T'=>x=y∧T'=⟨[],[]⟩)(hy:ys.map cA=xs)(hx:aB (bb []) (bb []) xs=xs)(hr:∀f h,y.ren f h=y)(k:K y T):VCx P G ro f ys T K:=
 VCx.loose (VCx.liftPure hv h (by rw [hy];exact hx) hr k)
theorem aO {b:Bool}{X Y:Prop}(h:b=false)(k:Y):cond b X Y:=by subst h;exact k
theorem aU {b:Bool}{X Y:Prop}(h:b=true)(k:X):cond b X Y:=by subst h;exact k
end
section
variable {P:Program}{G:aV}{g:Gh}{T:VT}{w:World}
theorem n6 (r:RW g T w){id size off n:Nat}{es:List (List TV)}{u:Value}(h:cd T size (.row size id off n)=some es)(hx:VR g w (.row size id off n) u):
  ∃g',Evo g w g' w∧RW g' (T.kill id) w∧VR g' w (.vec size es .none) u:=by
 simp only [cd] at h
 split at h
 ·rename_i cs hid
  cases hb:(beq size size&&ble ((off+n)*size) cs.length) with
  |false=>rw [hb] at h;cases h
  |true=>
   rw [hb] at h;injection h with h;subst h
   simp only [and_eq_true] at hb
   have hle:=le_of_ble_eq_true hb.2
   obtain ⟨b,c,h1,h2,h3,h4,h5,rfl⟩:=hx.row_inv
   obtain ⟨b',q1,⟨us,t,q2,q3,q4,q5⟩,q6,q7⟩:=r.obj id _ hid rfl
   rw [h1] at q1;injection q1 with q1;subst q1
   rw [Nat.add_mul] at hle
   have hl:((cs.drop (off*size)).take (n*size)).length=n*size:=by simp;omega
   obtain ⟨k1,k2,k3⟩:=gF hl
   have hv:=(q4.drop (off*size)).take (n*size)
   have hl2:(((us.take cs.length).drop (off*size)).take (n*size)).length=n*size:=by simp;omega
   have hcell:∀(j:Nat) v,(((us.take cs.length).drop (off*size)).take (n*size))[j]?=some v→w.cell? ⟨b,off*size+j,none⟩=some v:=λj v hv=>by
    rw [World.cell?,q2]
    simp only [List.getElem?_take,List.getElem?_drop] at hv
    split at hv
    ·split at hv
     ·simpa using hv
     ·cases hv
    ·cases hv
   have fr:=rM r hid rfl h1
   have e:=Evo.addSt (g:=g) (w:=w) (S:=λo=>off*size≤o∧o<off*size+n*size) q6
   refine ⟨_,e,(r.kill hid rfl h1).addSt q6 fr.obj (λk x o hx _ hin=>fr.tl k x hx (.inl ⟨o,hin⟩)) (λo ho=> ?_),?_⟩
   ·have hj:o-off*size<(((us.take cs.length).drop (off*size)).take (n*size)).length:=by rw [hl2];omega
    have:=hcell (o-off*size) _ (List.getElem?_eq_getElem hj)
    rw [show off*size+(o-off*size)=o by omega] at this
    rw [this];rfl
   ·refine .mk_vec (us:=((us.take cs.length).drop (off*size)).take (n*size)) k1.symm h3 h4 k2 trivial (by rw [k3];exact hv.mono e) (λj hj=>.inr ⟨rfl,?_⟩) hcell (λu hu=>q5 u (List.mem_of_mem_drop (List.mem_of_mem_take hu)))
    rw [k3,hl] at hj
    omega
 ·cases h
def Hs (x:TV)(T:VT):Option (Nat × List (List TV)):=match x with
 | .row size id off n=>(cd T size (.row size id off n)).map λes=>(size,es)
 |_=>none
theorem VCx.freezeRow {f:FuncId}{xs:List TV}{size:Nat}{es:List (List TV)}(hes:∀f h,bm f h es=es)(h:VCx P G 0 f xs ⟨[],[]⟩ λx T'=>Hs x T'=some (size,es)):VCx P G 0 f xs ⟨[],[]⟩ λx T'=>x=.vec size es .none∧T'=⟨[],[]⟩:=by
 refine VCx.keepQ 0 0 (le_refl _) (le_refl _) ?_
 intro g w us rw0 hG hx
 refine Calls.mono (h g w us rw0 hG hx) ?_
 rintro e w' ⟨v,x,g',T',he,hq,e',r',hv,hfx⟩
 unfold Hs at hq
 split at hq
 ·rename_i sz id off n
  simp only [map_eq_some_iff,Prod.mk.injEq] at hq
  obtain ⟨es',h1,rfl,rfl⟩:=hq
  obtain ⟨g2,e2,r2,v2⟩:=n6 r' h1 hv
  exact ⟨v,_,g2,_,he,⟨by simp only [TV.ren,hes,Tok.ren],by simp [VT.keep]⟩,e'.trans e2,r2,v2,⟨by simp,λi hi=>absurd hi (not_lt_zero i),λi o b hi=>absurd hi (not_lt_zero i)⟩⟩
 ·cases hq
end
section
variable {P:Program}{G:aV}
def CY (T:VT):List (Nat × TV × Option (VT→VT))→Nat→Option (TV × Option VT)
 |[],_=>none
 | (t,y,g)::l,s=>bif beq t s then some (y,match g with | some g=>some (g T) | none=>none) else CY T l s
def bc (l:List (Nat × TV × Option (VT→VT))):ki:=λo _ T=>match o.op with
 | .store _ (.tmp a) _=>CY T l (500000+a)
 |_=>match o.dst with
  |some d=>CY T l d
  |none=>none
theorem CZ {t e:TypeId}{x i:Operand}{l:List (Nat × TV)}{inf:TypeInfo}{id off n:Nat}{k:IntKind}{z:Int}(ht:P.underlying t=some (.slice e))(hi:P.info? e=some inf)
  (hx:aL G l x=.row inf.size id off n) (hz:aL G l i=.val (.int k z)) (h0:0≤z) (h1:z<n):ba P G (.indexAddr t x i) l (.ptr id (off*inf.size+z.toNat*inf.size)):=by
 refine ⟨?_⟩
 simp [bu,hx,hz,oq,ht,hi,h0,h1,Nat.beq_refl]
end
section
variable {P:Program}{G:aV}
theorem qY (size:Nat):∀{es:List (List TV)},(∀e∈es,e.length=size)→dN size es.length es.flatten=es
 |[],_=>rfl
 |e::es,h=>by
  have h1:e.length=size:=h e List.mem_cons_self
  have h2:=qY size (es:=es) λe he=>h e (List.mem_cons_of_mem _ he)
  simp only [length_cons,dN,List.flatten_cons]
  rw [List.take_left' h1,List.drop_left' h1,h2]
theorem dI {T:VT}{size id:Nat}{es:List (List TV)}(ho:T.objs[id]?=some (.row es.flatten))(hz:∀e∈es,e.length=size):cd T size (.row size id 0 es.length)=some es:=by
 have hl:=cL hz
 have e1:((es.flatten.drop (0*size)).take (es.length*size))=es.flatten:=by
  rw [Nat.zero_mul,List.drop_zero,←hl,take_length]
 simp only [cd,ho]
 rw [e1,qY size hz,Nat.beq_refl,Nat.zero_add,hl,Nat.ble_eq_true_of_le (le_refl _)]
 rfl
theorem VCx.freeze {f:FuncId}{xs:List TV}{T:VT}{size:Nat}{es:List (List TV)}{Q:VT→Prop}(h:VCx P G 0 f xs T λx T'=>∃id off n,x=.row size id off n∧cd T' size (.row size id off n)=some es∧Q (T'.kill id)):
  VCx P G 0 f xs T λx T'=>x=.vec size es .none∧Q T':=by
 intro g w us rw0 hG hx
 refine Calls.mono (h g w us rw0 hG hx) ?_
 rintro e w' ⟨v,x,g',T',he,⟨id,off,n,rfl,h1,hq⟩,e',r',hv,hfx⟩
 obtain ⟨g2,e2,r2,v2⟩:=n6 r' h1 hv
 refine ⟨v,_,g2,_,he,⟨rfl,hq⟩,e'.trans e2,r2,v2,⟨?_,λi hi=>absurd hi (not_lt_zero i),λi o b hi=>absurd hi (not_lt_zero i)⟩⟩
 have:=hfx.len
 simp only [VT.kill,List.length_set];exact this
end
section
variable {P:Program}{G:aV}{g:Gh}{T:VT}{w:World}
theorem RW.objLeAt (r:RW g T w){i:Nat}{o o':VO}(hi:T.objs[i]?=some o)(hl:o.live=true)(_hl':o'.live=true)(ho:∀b,g.obj i=some b→OR g w b o→OR g w b o'):RW g {T with objs:=T.objs.set i o' } w:=by
 have hil:i<T.objs.length:=(List.getElem?_eq_some_iff.1 hi).1
 have at':∀(j:Nat) oj,(T.objs.set i o')[j]?=some oj→oj.live=true→∃o2,T.objs[j]?=some o2∧o2.live=true∧∀b,g.obj j=some b→OR g w b o2→OR g w b oj:=λj oj h hlj=>by
  rw [List.getElem?_set] at h
  split at h
  ·rename_i hij;subst hij
   injection h with h;subst h
   exact ⟨o,hi,hl,ho⟩
  ·exact ⟨oj,h,hlj,λ_ _ h=>h⟩
 exact {
  obj:=λid oj h hlj=>by
   obtain ⟨o2,h1,h2,h3⟩:=at' id oj h hlj
   obtain ⟨b,h4,h5,h6⟩:=r.obj id o2 h1 h2
   exact ⟨b,h4,h3 b h4 h5,h6⟩
  inj:=λi j oi oj b hi li hj lj=>by
   obtain ⟨o2,h1,h2,_⟩:=at' i oi hi li
   obtain ⟨o3,h3,h4,_⟩:=at' j oj hj lj
   exact r.inj i j o2 o3 b h1 h2 h3 h4
  out:=λid h=>r.out id (by simpa using h)
  st:=r.st
  fr:=r.fr
  tl:=r.tl
  tout:=r.tout
  tinj:=r.tinj
  tobj:=λi oi b k x hi li=>by
   obtain ⟨o2,h1,h2,_⟩:=at' i oi hi li
   exact r.tobj i o2 b k x h1 h2
  own:=r.own
  own0:=r.own0
  tlo:=r.tlo}
theorem RW.objLe (r:RW g T w){i:Nat}{o o':VO}(hi:T.objs[i]?=some o)(hl:o.live=true)(hl':o'.live=true)(ho:∀b,OR g w b o→OR g w b o'):RW g {T with objs:=T.objs.set i o' } w:=r.objLeAt hi hl hl' λb _ h=>ho b h
end
section
variable {P:Program}{G:aV}
theorem VCx.at1 {f:FuncId}{ro k:Nat}{ys0 ys1:List TV}{o o1:VO}{T:VT}{K:TV→VT→Prop}{Q:TV→VO→List VO→Prop}(hG:dd G)(hro:ro≤k)(ho:T.objs[k]?=some o)(hl:o.live=true)(hren:o.ren (bb [k]) (bb [])=o1)(hy:aB (bb [k]) (bb []) ys0=ys1)
  (hv:VCx P G 0 f ys1 ⟨[o1],[]⟩ λx T'=>∃o' l',T'=⟨o'::l',[]⟩∧Q x o' l')
  (hk:∀x o' l',Q x o' l'→K (x.ren (bd T.objs.length [k]) (bd T.tails.length [])) ⟨T.objs.set k (o'.ren (bd T.objs.length [k]) (bd T.tails.length []))++l'.map (VO.ren (bd T.objs.length [k]) (bd T.tails.length [])),T.tails⟩):VCx P G ro f ys0 T K:=by
 have hg:T.give [k] []=⟨[o1],[]⟩:=by simp only [VT.give,map_cons,map_nil,ho,Option.getD_some,hren]
 refine (VCx.lift (xs:=ys1) [k] [] hG (by simp) nodup_nil (λj hj=> ?_) (by simp) (λi hi=> ?_) hy (by rw [hg];exact hv) (λx T' hq=> ?_)).mono ?_
 ·obtain rfl:=mem_singleton.1 hj;exact ⟨_,ho,hl⟩
 ·obtain rfl:=mem_singleton.1 hi;exact hro
 ·obtain ⟨o',l',rfl,_⟩:=hq;exact ⟨by simp,zero_le _⟩
 ·rintro x T' ⟨y,T2,⟨o',l',rfl,hq⟩,rfl,rfl⟩
  simpa [VT.back,cu] using hk y o' l' hq
end
abbrev Bs:=List (List TV)
def bT (z:Int):List TV:= [.val (.int .u8 z)]
def bV (l:List Int):Bs:=l.map bT
def IsB (b:Bs):Prop:=(∃l:List Int,b=bV l∧∀z∈l,0≤z∧z<256)∧b.length≤32000000
def hZ:List TV→Int
 |[.val (.int _ z)]=>z
 |_=>0
theorem IsB.take {b:Bs}(h:IsB b)(n:Nat):IsB (b.take n):=by
 obtain ⟨⟨l,rfl,hl⟩,h2⟩:=h
 exact ⟨⟨l.take n,by simp [bV,List.map_take],λz hz=>hl z (List.mem_of_mem_take hz)⟩,by rw [length_take];omega⟩
theorem IsB.drop {b:Bs}(h:IsB b)(n:Nat):IsB (b.drop n):=by
 obtain ⟨⟨l,rfl,hl⟩,h2⟩:=h
 exact ⟨⟨l.drop n,by simp [bV,List.map_drop],λz hz=>hl z (List.mem_of_mem_drop hz)⟩,by rw [length_drop];omega⟩
theorem IsB.nil:IsB []:=⟨⟨[],rfl,λ_ h=>by simp at h⟩,zero_le _⟩
theorem C0 (f g:Nat→Option Nat):∀l:List Int,bm f g (bV l)=bV l
 |[]=>rfl
 |a::l=>by simp only [bV,map_cons,bm];rw [show bm f g (l.map bT)=l.map bT from C0 f g l];rfl
theorem IsB.ren {b:Bs}(h:IsB b)(f g:Nat→Option Nat):bm f g b=b:=by
 obtain ⟨⟨l,rfl,_⟩,_⟩:=h
 exact C0 f g l
theorem IsB.at {b:Bs}(h:IsB b){j:Nat}{r:List TV}(hr:b[j]?=some r):∃z:Int,r=bT z∧0≤z∧z<256:=by
 obtain ⟨⟨l,rfl,hl⟩,_⟩:=h
 simp only [bV,List.getElem?_map,map_eq_some_iff] at hr
 obtain ⟨z,hz,rfl⟩:=hr
 exact ⟨z,rfl,hl z (List.mem_of_getElem? hz)⟩
theorem IsB.small {b:Bs}(h:IsB b):b.length≤32000000:=h.2
theorem IsB.len1 {b:Bs}(h:IsB b):∀e∈b,e.length=1:=λe he=>by
 obtain ⟨j,hj,rfl⟩:=List.getElem_of_mem he
 obtain ⟨z,hz,_⟩:=h.at (List.getElem?_eq_getElem hj)
 rw [hz];rfl
def cJ (n:Int)(b:Bs)(e:Int):Bool:=decide (e=0)&&decide (0≤n)&&decide (n≤b.length)
def bv (n:Int)(b:Bs)(e:Int):Bs:=bif cJ n b e then b.take n.toNat else []
def aC (n:Int)(b:Bs)(e:Int):Bs:=bif cJ n b e then b.drop n.toNat else b
def ar (n:Int)(b:Bs)(e:Int):Int:=bif decide (e=0) then (bif decide (n<0) then 2 else bif decide (n≤b.length) then 0 else 3) else e
def bN (n:Int)(b:Bs)(e a:Int):Int:=bif cJ n b e then i64.wrap (a+n) else a
def io (b:Bs):Int:=b.foldl (λn r=>n*256+hZ r) 0
def aw (k:Nat)(b:Bs)(e:Int):Int:=bif cJ k b e then io (b.take k) else 0
theorem eg {n:Int}{b:Bs}{e:Int}(h:IsB b):IsB (bv n b e):=by
 unfold bv;cases cJ n b e
 ·exact .nil
 ·exact h.take _
theorem aH {n:Int}{b:Bs}{e:Int}(h:IsB b):IsB (aC n b e):=by
 unfold aC;cases cJ n b e
 ·exact h
 ·exact h.drop _
theorem PE:∀(b:Bs) (r:List TV),io (b++ [r])=io b*256+hZ r:=λb r=>by simp [io,List.foldl_append]
theorem FB:∀(l:List Int) (n:Int),(∀z∈l,0≤z∧z<256)→0≤n→0≤(bV l).foldl (λn r=>n*256+hZ r) n∧(bV l).foldl (λn r=>n*256+hZ r) n<(n+1)*256^l.length
 |[],n,_,h=>by simp only [bV,map_nil,List.foldl_nil,List.length_nil,Int.pow_zero];omega
 |z::l,n,hz,h=>by
  obtain ⟨h1,h2⟩:=hz z List.mem_cons_self
  have e:hZ (bT z)=z:=rfl
  obtain ⟨h3,h4⟩:=FB l (n*256+z) (λx hx=>hz x (List.mem_cons_of_mem _ hx)) (by omega)
  simp only [bV,map_cons,List.foldl_cons,e,length_cons] at h3 h4 ⊢
  refine ⟨h3,Int.lt_of_lt_of_le h4 ?_⟩
  have hp:(0:Int)≤256^l.length:=Int.pow_nonneg (by decide)
  have:=Int.mul_le_mul_of_nonneg_right (show n*256+z+1≤(n+1)*256 by omega) hp
  rw [Int.pow_succ,Int.mul_comm (256^l.length) 256,←Int.mul_assoc]
  exact this
theorem tJ {l:List Int}(h:∀z∈l,0≤z∧z<256):0≤io (bV l)∧io (bV l)<256^l.length:=by
 have:=FB l 0 h (Int.le_refl _)
 simpa [io] using this
def oT (b:Bs):Prop:=b.length≤32000000
def jB (n:Int):Prop:=0≤n∧n≤8
def tK (n:Int)(b:Bs):Prop:=n≤b.length
def cQ (n:Int)(b:Bs):Int:=io (b.take n.toNat)
def ji (n:Int)(b:Bs)(e:Int):Int:=bif cJ n b e then cQ n b else 0
def AI (n:Int)(b:Bs):Bool:=decide (n≤b.length)
def fP (n:Int)(b:Bs):Int:=bif AI n b then cQ n b else 0
theorem qZ (k:Nat)(b:Bs)(e:Int):aw k b e=ji k b e:=by simp only [aw,ji,cQ,toNat_natCast]
theorem uX {n:Int}{b:Bs}{e:Int}:((bv n b e).length:Int)=bif cJ n b e then n else 0:=by
 unfold bv
 cases h:cJ n b e
 ·rfl
 ·simp only [cJ,and_eq_true,decide_eq_true_eq] at h
  simp only [cond_true,length_take];omega
theorem Jt {n:Int}{b:Bs}{e:Int}(h0:0≤n)(h:n≤(bv n b e).length):cQ n (bv n b e)=ji n b e:=by
 unfold ji
 rw [uX] at h
 cases hc:cJ n b e
 ·rw [hc] at h
  obtain rfl:n=0:=by simp only [cond_false] at h;omega
  rfl
 ·simp only [cQ,bv,hc,cond_true,List.take_take,Nat.min_self]
theorem Ju {n:Int}{b:Bs}{e:Int}(h:((bv n b e).length:Int)<n):ji n b e=0:=by
 unfold ji
 rw [uX] at h
 cases hc:cJ n b e
 ·rfl
 ·rw [hc] at h;simp only [cond_true] at h;omega
theorem Sf {n:Int}{b:Bs}{e:Int}(h0:0≤n):fP n (bv n b e)=ji n b e:=by
 unfold fP AI
 by_cases h:n≤(bv n b e).length
 ·rw [decide_eq_true h];exact Jt h0 h
 ·rw [decide_eq_false h];exact (Ju (by omega)).symm
theorem q8 {n:Nat}{b:Bs}(h:IsB b)(e:Int):0≤ji n b e∧ji n b e<256^n:=by
 have hp:(0:Int)<256^n:=Int.pow_pos (by decide)
 unfold ji
 cases hc:cJ n b e
 ·exact ⟨Int.le_refl _,hp⟩
 ·obtain ⟨⟨l,hl,hz⟩,_⟩:=h.take n
  simp only [cond_true,cQ,toNat_natCast]
  have hlen:l.length=n:=by
   have:=congrArg length hl
   simp only [cJ,and_eq_true,decide_eq_true_eq] at hc
   simp only [bV,List.length_map,length_take] at this
   omega
  rw [hl]
  have:=tJ hz
  rwa [hlen] at this
theorem cV {n z:Int}(h0:0≤n)(hn:n<72057594037927936)(hz:0≤z)(hz2:z<256):wrap .u64 ((toNat (ofInt (IntKind.bits .u64) (wrap .u64 (n*(2:Int)^min (Int.toNat (8:Int)) (IntKind.bits .u64))) ||| ofInt (IntKind.bits .u64) (wrap .u64 z)):Nat):Int)=n*256+z:=by
 obtain ⟨a,rfl⟩:=Int.eq_ofNat_of_zero_le h0
 obtain ⟨c,rfl⟩:=Int.eq_ofNat_of_zero_le hz
 have e1:wrap .u64 ((a:Int)*(2:Int)^min (Int.toNat (8:Int)) (IntKind.bits .u64))=((a*256:Nat):Int):=by
  simp only [wrap,IntKind.bits,signed];simp;omega
 have e2:wrap .u64 (c:Int)=(c:Int):=by simp only [wrap,IntKind.bits,signed];simp;omega
 rw [e1,e2]
 have e3:(ofInt (IntKind.bits .u64) ((a*256:Nat):Int) ||| ofInt (IntKind.bits .u64) (c:Int)).toNat=a*256+c:=by
  rw [toNat_or]
  simp only [IntKind.bits,BitVec.ofInt_natCast,toNat_ofNat]
  rw [mod_eq_of_lt (by omega),mod_eq_of_lt (by omega),show a*256=2^8*a by omega,Nat.two_pow_add_eq_or_of_lt (by omega:c<2^8)]
 rw [e3]
 simp only [wrap,IntKind.bits,signed];simp;omega
theorem VCx.asVec {P:Program}{G:aV}{f:FuncId}{xs:List TV}{T:VT}{size:Nat}{es:List (List TV)}{Q:VT→Prop}(h:VCx P G 0 f xs T λx T'=>((x=.val (.slice none 0 0)∧es= [])∨∃tok,x=.vec size es tok)∧Q T'):VCx P G 0 f xs T λx T'=>x=.vec size es .none∧Q T':=by
 intro g w us rw0 hG hx
 refine Calls.mono (h g w us rw0 hG hx) ?_
 rintro e w' ⟨v,x,g',T',he,⟨hq,hQ⟩,e',r',hv,hfx⟩
 refine ⟨v,_,g',T',he,⟨rfl,hQ⟩,e',r',?_,hfx⟩
 rcases hq with ⟨rfl,rfl⟩ | ⟨tok,rfl⟩
 ·obtain rfl:=hv.val_inv
  exact .nil trivial
 ·exact sd hv
def aN (b:Bs)(a e:Int):VO:=.cells [.val (.bool true),.vec 1 b .none,.val (.int .i64 a),.val (.int .i64 e)]
theorem bW {b:Bs}(h:IsB b)(a e:Int)(f g:Nat→Option Nat):(aN b a e).ren f g=aN b a e:=by
 simp only [aN,VO.ren,aB,TV.ren,h.ren,Tok.ren]
def mi (kind:IntKind)(n:Nat):be:=λro ys T K=>match ys with
 |[.ptr k 0]=>match T.objs[k]? with
  |some (.cells [.val (.bool true),.vec 1 b .none,.val (.int .i64 a),.val (.int .i64 e)])=>(ble ro k=true∧IsB b)∧K (.val (.int kind (aw n b e))) {T with objs:=T.objs.set k (aN (aC n b e) (bN n b e a) (ar n b e))}
  |_=>False
 |_=>False
section
variable {P:Program}{G:aV}
theorem Sg (hG:dd G){f:FuncId}{kind:IntKind}{n:Nat}(h:∀b a e,IsB b→VCx P G 0 f [.ptr 0 0] ⟨[aN b a e],[]⟩ λx T'=>x=.val (.int kind (aw n b e))∧T'=⟨[aN (aC n b e) (bN n b e a) (ar n b e)],[]⟩):
  ∀ro ys T K,mi kind n ro ys T K→VCx P G ro f ys T K:=by
 intro ro ys T K hw
 unfold mi at hw
 split at hw
 ·rename_i k
  split at hw
  ·rename_i b a e ho
   obtain ⟨⟨hro,hb⟩,hk⟩:=hw
   refine VCx.at1 (Q:=λx o' l'=>x=.val (.int kind (aw n b e))∧o'=aN (aC n b e) (bN n b e a) (ar n b e)∧l'= []) hG (le_of_ble_eq_true hro) ho rfl (bW hb a e _ _) (ys1:= [.ptr 0 0]) (by simp [aB,TV.ren,bb]) ((h b a e hb).mono λx T' ⟨h1,h2⟩=>⟨_,_,h2,h1,rfl,rfl⟩) ?_
   rintro x o' l' ⟨rfl,rfl,rfl⟩
   rw [bW (aH hb)]
   simpa [TV.ren] using hk
  ·exact hw.elim
 ·exact hw.elim
end
--bumped 32
def bo (b:Bs)(e:Int):Int:=bif decide (e=0) then (b.length:Int) else 0
def C1:be:=λro ys T K=>match ys with
 |[.ptr k 0,.val (.int .i64 n)]=>match T.objs[k]? with
  |some (.cells [.val (.bool true),.vec 1 b .none,.val (.int .i64 a),.val (.int .i64 e)])=>(ble ro k=true∧IsB b)∧K (.vec 1 (bv n b e) .none) {T with objs:=T.objs.set k (aN (aC n b e) (bN n b e a) (ar n b e))}
  |_=>False
 |_=>False
def nJ:be:=λro ys T K=>match ys with
 |[.ptr k 0]=>match T.objs[k]? with
  |some (.cells [.val (.bool true),.vec 1 b .none,.val (.int .i64 a),.val (.int .i64 e)])=>(ble ro k=true∧IsB b)∧K (.val (.int .i64 (bo b e))) T
  |_=>False
 |_=>False
def mj:be:=λro ys T K=>match ys with
 |[.ptr k 0]=>match T.objs[k]? with
  |some (.cells [.val (.bool true),.vec 1 b .none,.val (.int .i64 a),.val (.int .i64 e)])=>(ble ro k=true∧IsB b)∧K (.val (.int .i64 e)) T
  |_=>False
 |_=>False
def xH:be:=λro ys T K=>match ys with
 |[.ptr k 0,.val (.int .i64 n)]=>match T.objs[k]? with
  |some (.cells [.val (.bool true),.vec 1 b .none,.val (.int .i64 a),.val (.int .i64 e)])=>(ble ro k=true∧IsB b)∧K (.ptr T.objs.length 0) {T with objs:=T.objs.set k (aN (aC n b e) (bN n b e a) (ar n b e))++ [aN (bv n b e) 0 0]}
  |_=>False
 |_=>False
def tM:be:=λro ys T K=>match ys with
 |[.ptr k 0]=>match T.objs[k]? with
  |some (.cells [.val (.bool true),.vec 1 b .none,.val (.int .i64 a),.val (.int .i64 e)])=>(ble ro k=true∧IsB b)∧K (.vec 1 (bv (bo b e) b e) .none) {T with objs:=T.objs.set k (aN (aC (bo b e) b e) (bN (bo b e) b e a) (ar (bo b e) b e))}
  |_=>False
 |_=>False
def nr:be:=λ_ ys T K=>match ys with
 |[.vec 1 b _]=>IsB b∧K (.ptr T.objs.length 0) {T with objs:=T.objs++ [aN b 0 0]}
 |_=>False
section
variable {P:Program}{G:aV}
theorem jC {T:VT}{k:Nat}{o:VO}(h:T.objs[k]?=some o):T.objs.set k o=T.objs:=by
 apply List.ext_getElem?
 intro j
 rw [List.getElem?_set]
 split
 ·rename_i e;subst e
  rw [if_pos (List.getElem?_eq_some_iff.1 h).1,h]
 ·rfl
theorem Jv (hG:dd G){f:FuncId}(h:∀b a e n,IsB b→VCx P G 0 f [.ptr 0 0,.val (.int .i64 n)] ⟨[aN b a e],[]⟩ λx T'=>x=.vec 1 (bv n b e) .none∧T'=⟨[aN (aC n b e) (bN n b e a) (ar n b e)],[]⟩):
  ∀ro ys T K,C1 ro ys T K→VCx P G ro f ys T K:=by
 intro ro ys T K hw
 unfold C1 at hw
 split at hw
 ·rename_i k n
  split at hw
  ·rename_i b a e ho
   obtain ⟨⟨hro,hb⟩,hk⟩:=hw
   refine VCx.at1 (Q:=λx o' l'=>x=.vec 1 (bv n b e) .none∧o'=aN (aC n b e) (bN n b e a) (ar n b e)∧l'= []) hG (le_of_ble_eq_true hro) ho rfl (bW hb a e _ _) (ys1:= [.ptr 0 0,.val (.int .i64 n)]) (by simp [aB,TV.ren,bb]) ((h b a e n hb).mono λx T' ⟨h1,h2⟩=>⟨_,_,h2,h1,rfl,rfl⟩) ?_
   rintro x o' l' ⟨rfl,rfl,rfl⟩
   rw [bW (aH hb)]
   simpa [TV.ren,(eg hb).ren,Tok.ren] using hk
  ·exact hw.elim
 ·exact hw.elim
theorem Sh (hG:dd G){f:FuncId}(h:∀b a e,IsB b→VCx P G 0 f [.ptr 0 0] ⟨[aN b a e],[]⟩ λx T'=>x=.val (.int .i64 (bo b e))∧T'=⟨[aN b a e],[]⟩):
  ∀ro ys T K,nJ ro ys T K→VCx P G ro f ys T K:=by
 intro ro ys T K hw
 unfold nJ at hw
 split at hw
 ·rename_i k
  split at hw
  ·rename_i b a e ho
   obtain ⟨⟨hro,hb⟩,hk⟩:=hw
   refine VCx.at1 (Q:=λx o' l'=>x=.val (.int .i64 (bo b e))∧o'=aN b a e∧l'= []) hG (le_of_ble_eq_true hro) ho rfl (bW hb a e _ _) (ys1:= [.ptr 0 0]) (by simp [aB,TV.ren,bb]) ((h b a e hb).mono λx T' ⟨h1,h2⟩=>⟨_,_,h2,h1,rfl,rfl⟩) ?_
   rintro x o' l' ⟨rfl,rfl,rfl⟩
   rw [bW hb,show T.objs.set k (aN b a e)=T.objs from jC ho]
   simpa [TV.ren] using hk
  ·exact hw.elim
 ·exact hw.elim
theorem Si (hG:dd G){f:FuncId}(h:∀b a e,IsB b→VCx P G 0 f [.ptr 0 0] ⟨[aN b a e],[]⟩ λx T'=>x=.val (.int .i64 e)∧T'=⟨[aN b a e],[]⟩):
  ∀ro ys T K,mj ro ys T K→VCx P G ro f ys T K:=by
 intro ro ys T K hw
 unfold mj at hw
 split at hw
 ·rename_i k
  split at hw
  ·rename_i b a e ho
   obtain ⟨⟨hro,hb⟩,hk⟩:=hw
   refine VCx.at1 (Q:=λx o' l'=>x=.val (.int .i64 e)∧o'=aN b a e∧l'= []) hG (le_of_ble_eq_true hro) ho rfl (bW hb a e _ _) (ys1:= [.ptr 0 0]) (by simp [aB,TV.ren,bb]) ((h b a e hb).mono λx T' ⟨h1,h2⟩=>⟨_,_,h2,h1,rfl,rfl⟩) ?_
   rintro x o' l' ⟨rfl,rfl,rfl⟩
   rw [bW hb,show T.objs.set k (aN b a e)=T.objs from jC ho]
   simpa [TV.ren] using hk
  ·exact hw.elim
 ·exact hw.elim
theorem L0 (hG:dd G){f:FuncId}(h:∀b a e n,IsB b→VCx P G 0 f [.ptr 0 0,.val (.int .i64 n)] ⟨[aN b a e],[]⟩ λx T'=>x=.ptr 1 0∧T'=⟨[aN (aC n b e) (bN n b e a) (ar n b e),aN (bv n b e) 0 0],[]⟩):
  ∀ro ys T K,xH ro ys T K→VCx P G ro f ys T K:=by
 intro ro ys T K hw
 unfold xH at hw
 split at hw
 ·rename_i k n
  split at hw
  ·rename_i b a e ho
   obtain ⟨⟨hro,hb⟩,hk⟩:=hw
   refine VCx.at1 (Q:=λx o' l'=>x=.ptr 1 0∧o'=aN (aC n b e) (bN n b e a) (ar n b e)∧l'= [aN (bv n b e) 0 0]) hG (le_of_ble_eq_true hro) ho rfl (bW hb a e _ _) (ys1:= [.ptr 0 0,.val (.int .i64 n)]) (by simp [aB,TV.ren,bb]) ((h b a e n hb).mono λx T' ⟨h1,h2⟩=>⟨_,_,h2,h1,rfl,rfl⟩) ?_
   rintro x o' l' ⟨rfl,rfl,rfl⟩
   rw [bW (aH hb)]
   simp only [map_cons,map_nil,bW (eg hb)]
   simpa [TV.ren,bd] using hk
  ·exact hw.elim
 ·exact hw.elim
theorem Jw (hG:dd G){f:FuncId}(h:∀b a e,IsB b→VCx P G 0 f [.ptr 0 0] ⟨[aN b a e],[]⟩ λx T'=>x=.vec 1 (bv (bo b e) b e) .none∧T'=⟨[aN (aC (bo b e) b e) (bN (bo b e) b e a) (ar (bo b e) b e)],[]⟩):
  ∀ro ys T K,tM ro ys T K→VCx P G ro f ys T K:=by
 intro ro ys T K hw
 unfold tM at hw
 split at hw
 ·rename_i k
  split at hw
  ·rename_i b a e ho
   obtain ⟨⟨hro,hb⟩,hk⟩:=hw
   refine VCx.at1 (Q:=λx o' l'=>x=.vec 1 (bv (bo b e) b e) .none∧o'=aN (aC (bo b e) b e) (bN (bo b e) b e a) (ar (bo b e) b e)∧l'= []) hG (le_of_ble_eq_true hro) ho rfl (bW hb a e _ _) (ys1:= [.ptr 0 0]) (by simp [aB,TV.ren,bb]) ((h b a e hb).mono λx T' ⟨h1,h2⟩=>⟨_,_,h2,h1,rfl,rfl⟩) ?_
   rintro x o' l' ⟨rfl,rfl,rfl⟩
   rw [bW (aH hb)]
   simpa [TV.ren,(eg hb).ren,Tok.ren] using hk
  ·exact hw.elim
 ·exact hw.elim
theorem Jx (hG:dd G){f:FuncId}(h:∀b,IsB b→VCx P G 0 f [.vec 1 b .none] ⟨[],[]⟩ λx T'=>x=.ptr 0 0∧T'=⟨[aN b 0 0],[]⟩):
  ∀ro ys T K,nr ro ys T K→VCx P G ro f ys T K:=by
 intro ro ys T K hw
 unfold nr at hw
 split at hw
 ·rename_i b tok
  obtain ⟨hb,hk⟩:=hw
  refine VCx.loose ?_
  refine (VCx.lift (xs:= [.vec 1 b .none]) [] [] hG nodup_nil nodup_nil (λk hk=>by simp at hk) (by simp) (λi hi=>by simp at hi) (by simp [aB,cA,TV.ren,hb.ren,Tok.ren]) (h b hb) (λx T' hq=>⟨zero_le _,zero_le _⟩)).mono ?_
  rintro x T' ⟨y,T2,⟨rfl,rfl⟩,rfl,rfl⟩
  have e:VT.back T [] [] ⟨[aN b 0 0],[]⟩={T with objs:=T.objs++ [aN b 0 0]}:=by
   simp only [VT.back,map_cons,map_nil,bW hb,cu,List.append_nil]
  rw [e]
  simpa [TV.ren,bd] using hk
 ·exact hw.elim
end
def bf (B:Bs)(n e:Int):VO:=.cells [.vec 1 B .none,.val (.int .i64 n),.val (.int .i64 e)]
def aa (B:Bs)(n:Int):Bs:=B.drop n.toNat
def aX (m:Int)(B:Bs)(n e:Int):Int:=bif cJ m (aa B n) e then n+m else n
def bq (B:Bs)(n:Int):Prop:=0≤n∧n≤B.length∧B.length≤32000000
theorem cl {B:Bs}(h:IsB B)(n e:Int)(f g:Nat→Option Nat):(bf B n e).ren f g=bf B n e:=by
 simp only [bf,VO.ren,aB,TV.ren,h.ren,Tok.ren]
theorem dy {B:Bs}(h:IsB B)(n:Int):IsB (aa B n):=h.drop _
theorem bF {B:Bs}{n:Int}(h:bq B n)(m e:Int):bq B (aX m B n e):=by
 unfold aX
 cases hc:cJ m (aa B n) e
 ·exact h
 ·obtain ⟨h1,h2,h3⟩:=h
  simp only [cJ,aa,and_eq_true,decide_eq_true_eq,length_drop] at hc
  refine ⟨?_,?_,h3⟩<;>simp only [cond_true]<;>omega
theorem cm {B:Bs}{n:Int}(h:bq B n)(m e:Int):aa B (aX m B n e)=aC m (aa B n) e:=by
 unfold aX aC
 cases hc:cJ m (aa B n) e
 ·rfl
 ·obtain ⟨h1,h2,h3⟩:=h
  simp only [cJ,and_eq_true,decide_eq_true_eq] at hc
  simp only [cond_true,aa,List.drop_drop]
  congr 1
  omega
def ml (kind:IntKind)(k:Nat):be:=λro ys T K=>match ys with
 |[.ptr j 0]=>match T.objs[j]? with
  |some (.cells [.vec 1 B .none,.val (.int .i64 n),.val (.int .i64 e)])=>(ble ro j=true∧IsB B∧bq B n)∧K (.val (.int kind (aw k (aa B n) e))) {T with objs:=T.objs.set j (bf B (aX k B n e) (ar k (aa B n) e))}
  |_=>False
 |_=>False
def xI:be:=λro ys T K=>match ys with
 |[.ptr j 0,.val (.int .i64 m)]=>match T.objs[j]? with
  |some (.cells [.vec 1 B .none,.val (.int .i64 n),.val (.int .i64 e)])=>(ble ro j=true∧IsB B∧bq B n)∧K (.vec 1 (bv m (aa B n) e) .none) {T with objs:=T.objs.set j (bf B (aX m B n e) (ar m (aa B n) e))}
  |_=>False
 |_=>False
def ns:be:=λro ys T K=>match ys with
 |[.ptr j 0]=>match T.objs[j]? with
  |some (.cells [.vec 1 B .none,.val (.int .i64 n),.val (.int .i64 e)])=>(ble ro j=true∧IsB B∧bq B n)∧K (.val (.int .i64 (bo (aa B n) e))) T
  |_=>False
 |_=>False
def xJ:be:=λro ys T K=>match ys with
 |[.ptr j 0,.val (.int .i64 m)]=>match T.objs[j]? with
  |some (.cells [.vec 1 B .none,.val (.int .i64 n),.val (.int .i64 e)])=>(ble ro j=true∧IsB B∧bq B n)∧K (.ptr T.objs.length 0) {T with objs:=T.objs.set j (bf B (aX m B n e) (ar m (aa B n) e))++ [bf (bv m (aa B n) e) 0 0]}
  |_=>False
 |_=>False
def tN:be:=λro ys T K=>match ys with
 |[.ptr j 0]=>match T.objs[j]? with
  |some (.cells [.vec 1 B .none,.val (.int .i64 n),.val (.int .i64 e)])=>(ble ro j=true∧IsB B∧bq B n)∧K (.vec 1 (bv (bo (aa B n) e) (aa B n) e) .none) {T with objs:=T.objs.set j (bf B (aX (bo (aa B n) e) B n e) (ar (bo (aa B n) e) (aa B n) e))}
  |_=>False
 |_=>False
def iJ:be:=λ_ ys T K=>match ys with
 |[.vec 1 b _]=>(IsB b∧oT b)∧K (.ptr T.objs.length 0) {T with objs:=T.objs++ [bf b 0 0]}
 |_=>False
section
variable {P:Program}{G:aV}
theorem Sj (hG:dd G){f:FuncId}{kind:IntKind}{k:Nat}(h:∀B n e,IsB B→bq B n→VCx P G 0 f [.ptr 0 0] ⟨[bf B n e],[]⟩ λx T'=>x=.val (.int kind (aw k (aa B n) e))∧T'=⟨[bf B (aX k B n e) (ar k (aa B n) e)],[]⟩):
  ∀ro ys T K,ml kind k ro ys T K→VCx P G ro f ys T K:=by
 intro ro ys T K hw
 unfold ml at hw
 split at hw
 ·rename_i j
  split at hw
  ·rename_i B n e ho
   obtain ⟨⟨hro,hb,hi⟩,hk⟩:=hw
   refine VCx.at1 (Q:=λx o' l'=>x=.val (.int kind (aw k (aa B n) e))∧o'=bf B (aX k B n e) (ar k (aa B n) e)∧l'= []) hG (le_of_ble_eq_true hro) ho rfl (cl hb n e _ _) (ys1:= [.ptr 0 0]) (by simp [aB,TV.ren,bb]) ((h B n e hb hi).mono λx T' ⟨h1,h2⟩=>⟨_,_,h2,h1,rfl,rfl⟩) ?_
   rintro x o' l' ⟨rfl,rfl,rfl⟩
   rw [cl hb]
   simpa [TV.ren] using hk
  ·exact hw.elim
 ·exact hw.elim
theorem Sk (hG:dd G){f:FuncId}(h:∀B n e m,IsB B→bq B n→VCx P G 0 f [.ptr 0 0,.val (.int .i64 m)] ⟨[bf B n e],[]⟩ λx T'=>x=.vec 1 (bv m (aa B n) e) .none∧T'=⟨[bf B (aX m B n e) (ar m (aa B n) e)],[]⟩):
  ∀ro ys T K,xI ro ys T K→VCx P G ro f ys T K:=by
 intro ro ys T K hw
 unfold xI at hw
 split at hw
 ·rename_i j m
  split at hw
  ·rename_i B n e ho
   obtain ⟨⟨hro,hb,hi⟩,hk⟩:=hw
   refine VCx.at1 (Q:=λx o' l'=>x=.vec 1 (bv m (aa B n) e) .none∧o'=bf B (aX m B n e) (ar m (aa B n) e)∧l'= []) hG (le_of_ble_eq_true hro) ho rfl (cl hb n e _ _) (ys1:= [.ptr 0 0,.val (.int .i64 m)]) (by simp [aB,TV.ren,bb]) ((h B n e m hb hi).mono λx T' ⟨h1,h2⟩=>⟨_,_,h2,h1,rfl,rfl⟩) ?_
   rintro x o' l' ⟨rfl,rfl,rfl⟩
   rw [cl hb]
   simpa [TV.ren,(eg (dy hb n)).ren,Tok.ren] using hk
  ·exact hw.elim
 ·exact hw.elim
theorem Sl (hG:dd G){f:FuncId}(h:∀B n e,IsB B→bq B n→VCx P G 0 f [.ptr 0 0] ⟨[bf B n e],[]⟩ λx T'=>x=.val (.int .i64 (bo (aa B n) e))∧T'=⟨[bf B n e],[]⟩):
  ∀ro ys T K,ns ro ys T K→VCx P G ro f ys T K:=by
 intro ro ys T K hw
 unfold ns at hw
 split at hw
 ·rename_i j
  split at hw
  ·rename_i B n e ho
   obtain ⟨⟨hro,hb,hi⟩,hk⟩:=hw
   refine VCx.at1 (Q:=λx o' l'=>x=.val (.int .i64 (bo (aa B n) e))∧o'=bf B n e∧l'= []) hG (le_of_ble_eq_true hro) ho rfl (cl hb n e _ _) (ys1:= [.ptr 0 0]) (by simp [aB,TV.ren,bb]) ((h B n e hb hi).mono λx T' ⟨h1,h2⟩=>⟨_,_,h2,h1,rfl,rfl⟩) ?_
   rintro x o' l' ⟨rfl,rfl,rfl⟩
   rw [cl hb,show T.objs.set j (bf B n e)=T.objs from jC ho]
   simpa [TV.ren] using hk
  ·exact hw.elim
 ·exact hw.elim
theorem L1 (hG:dd G){f:FuncId}(h:∀B n e m,IsB B→bq B n→VCx P G 0 f [.ptr 0 0,.val (.int .i64 m)] ⟨[bf B n e],[]⟩ λx T'=>x=.ptr 1 0∧T'=⟨[bf B (aX m B n e) (ar m (aa B n) e),bf (bv m (aa B n) e) 0 0],[]⟩):
  ∀ro ys T K,xJ ro ys T K→VCx P G ro f ys T K:=by
 intro ro ys T K hw
 unfold xJ at hw
 split at hw
 ·rename_i j m
  split at hw
  ·rename_i B n e ho
   obtain ⟨⟨hro,hb,hi⟩,hk⟩:=hw
   refine VCx.at1 (Q:=λx o' l'=>x=.ptr 1 0∧o'=bf B (aX m B n e) (ar m (aa B n) e)∧l'= [bf (bv m (aa B n) e) 0 0]) hG (le_of_ble_eq_true hro) ho rfl (cl hb n e _ _) (ys1:= [.ptr 0 0,.val (.int .i64 m)]) (by simp [aB,TV.ren,bb]) ((h B n e m hb hi).mono λx T' ⟨h1,h2⟩=>⟨_,_,h2,h1,rfl,rfl⟩) ?_
   rintro x o' l' ⟨rfl,rfl,rfl⟩
   rw [cl hb]
   simp only [map_cons,map_nil,cl (eg (dy hb n))]
   simpa [TV.ren,bd] using hk
  ·exact hw.elim
 ·exact hw.elim
theorem Jy (hG:dd G){f:FuncId}(h:∀B n e,IsB B→bq B n→VCx P G 0 f [.ptr 0 0] ⟨[bf B n e],[]⟩ λx T'=>x=.vec 1 (bv (bo (aa B n) e) (aa B n) e) .none∧T'=⟨[bf B (aX (bo (aa B n) e) B n e) (ar (bo (aa B n) e) (aa B n) e)],[]⟩):
  ∀ro ys T K,tN ro ys T K→VCx P G ro f ys T K:=by
 intro ro ys T K hw
 unfold tN at hw
 split at hw
 ·rename_i j
  split at hw
  ·rename_i B n e ho
   obtain ⟨⟨hro,hb,hi⟩,hk⟩:=hw
   refine VCx.at1 (Q:=λx o' l'=>x=.vec 1 (bv (bo (aa B n) e) (aa B n) e) .none∧o'=bf B (aX (bo (aa B n) e) B n e) (ar (bo (aa B n) e) (aa B n) e)∧l'= []) hG (le_of_ble_eq_true hro) ho rfl (cl hb n e _ _) (ys1:= [.ptr 0 0]) (by simp [aB,TV.ren,bb]) ((h B n e hb hi).mono λx T' ⟨h1,h2⟩=>⟨_,_,h2,h1,rfl,rfl⟩) ?_
   rintro x o' l' ⟨rfl,rfl,rfl⟩
   rw [cl hb]
   simpa [TV.ren,(eg (dy hb n)).ren,Tok.ren] using hk
  ·exact hw.elim
 ·exact hw.elim
theorem Jz (hG:dd G){f:FuncId}(h:∀b,IsB b→oT b→VCx P G 0 f [.vec 1 b .none] ⟨[],[]⟩ λx T'=>x=.ptr 0 0∧T'=⟨[bf b 0 0],[]⟩):
  ∀ro ys T K,iJ ro ys T K→VCx P G ro f ys T K:=by
 intro ro ys T K hw
 unfold iJ at hw
 split at hw
 ·rename_i b tok
  obtain ⟨⟨hb,hl⟩,hk⟩:=hw
  refine VCx.loose ?_
  refine (VCx.lift (xs:= [.vec 1 b .none]) [] [] hG nodup_nil nodup_nil (λk hk=>by simp at hk) (by simp) (λi hi=>by simp at hi) (by simp [aB,cA,TV.ren,hb.ren,Tok.ren]) (h b hb hl) (λx T' hq=>⟨zero_le _,zero_le _⟩)).mono ?_
  rintro x T' ⟨y,T2,⟨rfl,rfl⟩,rfl,rfl⟩
  have e:VT.back T [] [] ⟨[bf b 0 0],[]⟩={T with objs:=T.objs++ [bf b 0 0]}:=by
   simp only [VT.back,map_cons,map_nil,cl hb,cu,List.append_nil]
  rw [e]
  simpa [TV.ren,bd] using hk
 ·exact hw.elim
end
--bumped 32
section
variable {P:Program}{G:aV}
end
section
variable {P:Program}{G:aV}
end
abbrev ae (a1:Int):TV:=(.val (.int .i64 a1))
abbrev an (a1:List (List TV)):TV:=(.vec 1 a1 .none)
abbrev nK (a1:Int)(a2:List (List TV))(a3 a4:Int)(a5:List (List TV))(a6:Int):VO:=(.cells [(ae a1),(an a2),(ae a3),(ae a4),(an a5),(ae a6)])
abbrev dX (a1 a2:Int)(a3:List (List TV)):VO:=(.cells [(ae a1),(ae a2),(an a3)])
abbrev NW (a1:VO)(a2:Int)(a3:List (List TV))(a4 a5:Int)(a6:List (List TV))(a7:Int)(a8:VO)(a9:Int)(a10:List (List TV))(a11 a12:Int)(a13:List (List TV))(a14 a15 a16:Int)(a17:List (List TV))(a18 a19:Int)(a20:List (List TV)):VT:=⟨[a1,(nK a2 a3 a4 a5 a6 a7),a8,(nK a9 a10 a11 a12 a13 a14),(dX a15 a16 a17),(dX a18 a19 a20)],[]⟩
abbrev aY:TV:=(.val (.slice .none 0 0))
abbrev aE:TV:=(.val (.int .i64 0))
abbrev W0 (a1:VO)(a2:Int):VT:=⟨[a1,(.cells [(ae a2),aY,aE,aE,aY,aE])],[]⟩
abbrev av:TV:=(.val (.bool false))
abbrev eV:TV:=(.ptr 0 0)
abbrev eG:TV:=(.ptr 1 0)
abbrev Sm (a1 a2:List (List TV))(a3 a4:Int):List TV:= [av,(an a1),eV,eG,(an a2),(ae a3),(ae a4)]
abbrev L3 (a1:List (List TV))(a2:Int)(a3:List (List TV))(a4 a5:Int):List TV:= [av,(an a1),(ae a2),(an a3),(ae a4),(ae a5)]
abbrev aF:TV:=(.val (.bool true))
abbrev Ht (a1:Int)(a2:List (List TV))(a3 a4:Int)(a5:List (List TV))(a6:Int):VO:=(.cells [aF,(ae a1),(an a2),(ae a3),(ae a4),(an a5),(ae a6)])
abbrev eH:TV:=(.val (.int .i64 1))
abbrev tO (a1:Int)(a2:List (List TV)):VO:=(.cells [eH,(ae a1),(an a2)])
abbrev L4 (a1:Int)(a2:List (List TV))(a3:Int)(a4:List (List TV))(a5:Int):VO:=(.cells [aF,(ae a1),(an a2),aE,(ae a3),(an a4),(ae a5)])
abbrev jZ:TV:=(.vec 1 [] .none)
abbrev b8:VO:=(.cells [aE,aE,jZ])
abbrev Sn (a1:VO):VT:=⟨[a1,b8,b8],[]⟩
abbrev cc (a1:Int):TV:=(.val (.int .u32 a1))
abbrev cN:TV:=(.val (.int .u32 0))
abbrev Xr (a1 a2 a3 a4:Int)(a5:TV)(a6 a7:Int)(a8:List (List TV)):VO:=(.cells [(ae a1),(ae a2),(ae a3),(cc a4),a5,aY,aE,aY,cN,aE,av,aY,(ae a6),(ae a7),(an a8)])
abbrev nA (a1:List (List TV))(a2:Nat):TV:=(.vec 15 a1 (.tail 0 a2))
abbrev bD (a1:List (List TV)):TV:=(.vec 2 a1 .none)
abbrev ei (a1:Bool):TV:=(.val (.bool a1))
abbrev So (a1 a2 a3 a4:Int)(a5 a6:List (List TV))(a7:Int)(a8:List (List TV))(a9 a10:Int)(a11:Bool)(a12:List (List TV))(a13 a14:Int)(a15:List (List TV)):TV:=(.elt [(ae a1),(ae a2),(ae a3),(cc a4),(bD a5),(bD a6),(ae a7),(an a8),(cc a9),(ae a10),(ei a11),(bD a12),(ae a13),(ae a14),(an a15)])
abbrev ia (a1:List (List TV)):TV:=(.vec 15 a1 .none)
abbrev bh:VO:=(.cells [aE,aE,aY])
abbrev L5 (a1:Int)(a2 a3:List (List TV))(a4:Int)(a5:List (Nat × Nat × Bool)):VT:=⟨[(.cells [(ae a1),(an a2),aE,aE,(an a3),(ae a4)]),bh],a5⟩
abbrev eI (a1:List (List TV))(a2:Nat):TV:=(.vec 1 a1 (.tail 0 a2))
abbrev wk (a1:Int)(a2:List (List TV))(a3:Nat)(a4:List (List TV))(a5:Int):VO:=(.cells [(ae a1),(eI a2 a3),aE,aE,(an a4),(ae a5)])
abbrev C2 (a1:List (List TV))(a2:Nat):List TV:= [eV,eG,(.vec 15 a1 (.tail 1 a2))]
abbrev tP (a1 a2:Int)(a3:List (List TV)):List TV:= [(ae a1),(ae a2),(an a3)]
abbrev C3 (a1:Int)(a2:List (List TV)):TV:=(.elt [(ae a1),(an a2)])
abbrev qB (a1 a2 a3:Int)(a4:List (List TV)):VO:=(.cells [(ae a1),(ae a2),(cc a3),(bD a4)])
abbrev mF (a1 a2 a3:Int)(a4:List (List TV))(a5 a6 a7:Int)(a8:List (List TV)):VT:=⟨[(qB a1 a2 a3 a4),(qB a5 a6 a7 a8)],[]⟩
abbrev wl (a1 a2:Int):List TV:= [eV,eG,(ae a1),(ae a2)]
abbrev Hu (a1:Int):List TV:= [eV,eG,(ae a1),aE]
abbrev mG (a1:Int)(a2:List (List TV))(a3 a4:Int)(a5:Bool):VO:=(.cells [(ae a1),(an a2),(cc a3),(ae a4),(ei a5)])
abbrev oU (a1:Int)(a2:List (List TV))(a3 a4:Int)(a5:Bool)(a6:Int)(a7:List (List TV))(a8 a9:Int)(a10:Bool):VT:=⟨[(mG a1 a2 a3 a4 a5),(mG a6 a7 a8 a9 a10)],[]⟩
abbrev wm (a1 a2:Int)(a3:List (List TV))(a4 a5:Int)(a6:List (List TV)):VT:=⟨[(dX a1 a2 a3),(dX a4 a5 a6)],[]⟩
abbrev Sp (a1 a2 a3 a4:Int)(a5 a6:List (List TV))(a7:Int)(a8:List (List TV))(a9 a10:Int)(a11:Bool)(a12:List (List TV))(a13 a14:Int)(a15:List (List TV)):VO:=(.cells [(ae a1),(ae a2),(ae a3),(cc a4),(bD a5),(bD a6),(ae a7),(an a8),(cc a9),(ae a10),(ei a11),(bD a12),(ae a13),(ae a14),(an a15)])
abbrev qC:TV:=(.ptr 3 0)
abbrev tQ (a1:Nat):TV:=(.row 1 2 0 a1)
abbrev wq (a1:Int)(a2:Nat)(a3:Int):VO:=(.cells [aF,(ae a1),(tQ a2),aE,aE,jZ,(ae a3)])
abbrev qD:TV:=(.row 1 0 0 0)
abbrev bI (a1:List TV):VO:=(.row a1)
abbrev lM (a1 a2:Int):VO:=(.cells [(ae a1),(ae a2),jZ])
abbrev Xs (a1:List TV)(a2 a3 a4 a5:Int):VT:=⟨[(bI a1),bh,(lM a2 a3),(lM a4 a5)],[]⟩
abbrev oV:VO:=(.cells [aE,aE,aE,cN,aY,aY,aE,aY,cN,aE,av,aY,aE,aE,aY])
abbrev dK:TV:=(.val (.int .i64 2))
abbrev Sq:VO:=(.cells [eH,dK,aY])
abbrev Ss (a1:List TV)(a2:Int)(a3:List (List TV))(a4:Int)(a5:List (List TV)):VT:=⟨[(bI a1),oV,(tO a2 a3),(tO a4 a5),Sq],[]⟩
abbrev Hv (a1:Int):VO:=(.cells [(ae a1),aE,aE,cN,aY,aY,aE,aY,cN,aE,av,aY,aE,aE,aY])
abbrev mH:VO:=(.cells [eH,dK,(.row 1 5 0 2)])
abbrev St (a1:List TV)(a2:Int)(a3 a4:TV)(a5:Int):VT:=⟨[(bI a1),(Hv a2),bh,b8,mH,(.row [a3,a4]),(Hv a5)],[]⟩
abbrev Su (a1:List TV)(a2 a3:TV):VT:=⟨[(bI a1),oV,mH,b8,mH,(.row [a2,a3])],[]⟩
abbrev bG (a1:Int):TV:=(.val (.int .u8 a1))
abbrev nB (a1 a2:Int):VO:=(.row [(bG a1),(bG a2)])
abbrev j3:TV:=(.val (.int .u8 255))
abbrev j4:VO:=(.cells [j3,j3,j3,j3,j3,j3,j3,j3,j3,j3,j3,j3,j3,j3,j3,j3])
abbrev Xt (a1:List TV)(a2 a3:Int):VT:=⟨[(bI a1),bh,(nB a2 a3),j4,j4],[]⟩
abbrev gK:TV:=(.val (.int .i64 3))
abbrev tR (a1:List (List TV)):TV:=(.vec 1 a1 .full)
abbrev zn (a1:List (List TV)):VO:=(.cells [eH,gK,(tR a1)])
abbrev Xu (a1:List TV)(a2:List (List TV))(a3 a4:Int)(a5:List (List TV)):VT:=⟨[(bI a1),(zn a2),(nB a3 a4),j4,j4,(zn a5)],[]⟩
abbrev Xv (a1:List TV)(a2 a3:Int):VT:=⟨[(bI a1),(.cells [eH,dK,(.row 1 2 0 2)]),(nB a2 a3),j4,j4,(.cells [eH,dK,(.row 1 2 0 2)])],[]⟩
abbrev Hw:TV:=(.tup [aE,aE,(.agg [eH,dK,(.row 1 2 0 2)])])
abbrev C4:VO:=(.cells [eH,eH,aY])
abbrev wt (a1 a2:Int)(a3:List (List TV)):TV:=(.agg [(ae a1),(ae a2),(an a3)])
abbrev Xw (a1:List TV)(a2 a3:Int)(a4:List (List TV))(a5 a6:Int)(a7:List (List TV)):VT:=⟨[(bI a1),bh,(dX a2 a3 a4),(dX a5 a6 a7)],[]⟩
abbrev oW (a1:Nat):TV:=(.row 1 1 0 a1)
abbrev oX (a1:List TV):VT:=⟨[(bI a1)],[]⟩
abbrev tS (a1:Int):VO:=(.cells [dK,(ae a1),aY])
abbrev iA:TV:=(.agg [aE,aE,aY])
abbrev Hx (a1 a2 a3:Int)(a4:List (List TV)):TV:=(.tup [(.agg [(ae a1),(ae a2),(cc a3),(bD a4)]),iA])
abbrev ja (a1:List (List TV)):VO:=(.cells [(.ptr 5 6),(an a1)])
abbrev iB (a1:List (List TV)):VO:=(.cells [(.ptr 5 0),(an a1)])
abbrev ib:VO:=(.cells [qC])
abbrev Sv (a1:Int)(a2:List (List TV))(a3:Int)(a4:List (List TV)):VT:=⟨[oV,(tO a1 a2),(tO a3 a4)],[]⟩
abbrev zo:TV:=(.agg [aE,aE,aE,cN,aY,aY,aE,aY,cN,aE,av,aY,aE,aE,aY])
abbrev Hy (a1:Int)(a2:List (List TV)):TV:=(.tup [zo,(.agg [eH,(ae a1),(an a2)])])
abbrev L6 (a1:Int):TV:=(.tup [(.agg [(ae a1),aE,aE,cN,aY,aY,aE,aY,cN,aE,av,aY,aE,aE,aY]),iA])
abbrev Sw (a1:Int):VO:=(.cells [(ae a1),aE,aE,cN,aY,aY,aE,aY,cN,aE,av,aY,aE,aE,jZ])
abbrev Hz:TV:=(.tup [zo,(.agg [eH,dK,(.row 1 5 0 2)])])
abbrev Sx (a1 a2 a3:Int)(a4:List (List TV)):VO:=(.cells [(ae a1),aE,aE,cN,aY,aY,aE,aY,cN,aE,av,aY,(ae a2),(ae a3),(an a4)])
abbrev Sy (a1 a2 a3:Int)(a4:List (List TV)):TV:=(.tup [(.agg [(ae a1),aE,aE,cN,aY,aY,aE,aY,cN,aE,av,aY,(ae a2),(ae a3),(an a4)]),iA])
abbrev Sz (a1:Int):VO:=(.cells [(ae a1),aE,aE,cN,aY,(.vec 2 [] .none),aE,jZ,cN,aE,av,(.vec 2 [] .none),aE,aE,aY])
abbrev SA (a1:Int)(a2:List (List TV)):TV:=(.tup [zo,(.agg [gK,(ae a1),(an a2)])])
abbrev SB (a1:Int)(a2:List (List TV))(a3:Int)(a4:List (List TV))(a5 a6:Int)(a7:Bool)(a8:List (List TV)):VO:=(.cells [(ae a1),aE,aE,cN,aY,(bD a2),(ae a3),(an a4),(cc a5),(ae a6),(ei a7),(bD a8),aE,aE,aY])
abbrev SC (a1:Int)(a2:List (List TV))(a3:Int)(a4:List (List TV))(a5 a6:Int)(a7:Bool)(a8:List (List TV)):TV:=(.tup [(.agg [(ae a1),aE,aE,cN,aY,(bD a2),(ae a3),(an a4),(cc a5),(ae a6),(ei a7),(bD a8),aE,aE,aY]),iA])
abbrev SD (a1:Int):VO:=(.cells [(ae a1),aE,aE,cN,(.vec 2 [] .none),aY,aE,aY,cN,aE,av,aY,aE,aE,aY])
abbrev L7 (a1:Int)(a2:List (List TV)):VO:=(.cells [dK,(ae a1),(an a2)])
abbrev SE (a1:Int)(a2:List (List TV)):TV:=(.tup [zo,(.agg [dK,(ae a1),(an a2)])])
abbrev SF (a1 a2 a3 a4:Int)(a5:List (List TV)):VO:=(.cells [(ae a1),(ae a2),(ae a3),(cc a4),(bD a5),aY,aE,aY,cN,aE,av,aY,aE,aE,aY])
abbrev SG (a1 a2 a3 a4:Int)(a5:List (List TV)):TV:=(.tup [(.agg [(ae a1),(ae a2),(ae a3),(cc a4),(bD a5),aY,aE,aY,cN,aE,av,aY,aE,aE,aY]),iA])
abbrev SI (a1 a2:Int):VT:=⟨[bh,(nB a1 a2)],[]⟩
abbrev L8:VO:=(.cells [eH,dK,(.row 1 1 0 2)])
abbrev BA (a1 a2:Int):VT:=⟨[L8,(nB a1 a2)],[]⟩
abbrev gS:VT:=⟨[C4],[]⟩
abbrev NX:TV:=(.tup [aE,aE,iA])
abbrev NY (a1 a2:Int):VT:=⟨[bh,(nB a1 a2),j4,j4],[]⟩
abbrev xK (a1 a2:Int):TV:=(.tup [(ae a1),(ae a2),iA])
abbrev iC:List TV:= [aE,(.val (.int .i64 29)),(.val (.int .i64 23)),(.val (.int .i64 21)),(.val (.int .i64 19))]
abbrev NZ (a1:List (List TV))(a2 a3:Int)(a4:List (List TV)):VT:=⟨[(zn a1),(nB a2 a3),j4,j4,(zn a4)],[]⟩
abbrev uY (a1:List (List TV)):TV:=(.tup [aE,aE,(.agg [eH,gK,(tR a1)])])
abbrev xM (a1 a2:Int):VT:=⟨[L8,(nB a1 a2),j4,j4,L8],[]⟩
abbrev n7:TV:=(.tup [aE,aE,(.agg [eH,dK,(.row 1 1 0 2)])])
abbrev N1 (a1 a2:Int):VT:=⟨[C4,(nB a1 a2),j4,j4,C4],[]⟩
abbrev fI:TV:=(.tup [aE,aE,(.agg [eH,eH,aY])])
abbrev uZ (a1 a2 a3 a4 a5 a6 a7 a8 a9 a10 a11 a12 a13 a14 a15 a16:Int):TV:=(.agg [(bG a1),(bG a2),(bG a3),(bG a4),(bG a5),(bG a6),(bG a7),(bG a8),(bG a9),(bG a10),(bG a11),(bG a12),(bG a13),(bG a14),(bG a15),(bG a16)])
abbrev N2 (a1:List (List TV)):VO:=(.cells [(bD a1),aE,aY,cN,aE,av,aY])
abbrev pS:VO:=(.cells [gK,(.val (.int .i64 10)),aY])
abbrev HA:TV:=(.agg [aY,aE,aY,cN,aE,av,aY])
abbrev BC:TV:=(.tup [HA,(.agg [gK,(.val (.int .i64 10)),aY])])
abbrev pT (a1 a2:List (List TV)):VO:=(.cells [(bD a1),aE,jZ,cN,aE,av,(bD a2)])
abbrev BD (a1 a2:List (List TV)):TV:=(.tup [(.agg [(bD a1),aE,jZ,cN,aE,av,(bD a2)]),iA])
abbrev gU:VO:=(.cells [aE,jZ,cN,aE,av])
abbrev pU (a1:Int)(a2:List (List TV)):TV:=(.tup [HA,(.agg [gK,(ae a1),(an a2)])])
abbrev HB (a1:List (List TV))(a2:Int)(a3:List (List TV))(a4 a5:Int)(a6:Bool)(a7:List (List TV)):VO:=(.cells [(bD a1),(ae a2),(an a3),(cc a4),(ae a5),(ei a6),(bD a7)])
abbrev HC (a1:List (List TV))(a2:Int)(a3:List (List TV))(a4 a5:Int)(a6:Bool)(a7:List (List TV)):TV:=(.tup [(.agg [(bD a1),(ae a2),(an a3),(cc a4),(ae a5),(ei a6),(bD a7)]),iA])
abbrev df (a1 a2:List (List TV)):VO:=(.cells [(bD a1),aE,aY,cN,aE,av,(bD a2)])
abbrev kF (a1 a2:List (List TV)):TV:=(.tup [(.agg [(bD a1),aE,aY,cN,aE,av,(bD a2)]),iA])
abbrev eX:VO:=(.cells [aY,aE,aY,cN,aE,av,aY])
abbrev N3:TV:=(.agg [gK,eH,aY])
abbrev N4:TV:=(.tup [HA,N3])
abbrev gV:VO:=(.cells [aE,aY,cN,aE,av])
abbrev u0 (a1:List (List TV)):VO:=(.cells [gK,gK,(tR a1)])
abbrev gg (a1:List TV):VO:=(.cells a1)
abbrev HD (a1:List (List TV))(a2:Int)(a3:List (List TV))(a4 a5:Int)(a6:Bool)(a7:List TV)(a8:List (List TV)):VT:=⟨[gV,(u0 a1),b8,(mG a2 a3 a4 a5 a6),(gg a7),(u0 a8)],[]⟩
abbrev BE (a1 a2 a3:Int)(a4:Bool):VO:=(.cells [(ae a1),aY,(cc a2),(ae a3),(ei a4)])
abbrev HE (a1:List (List TV))(a2 a3 a4:Int)(a5:Bool)(a6:List TV)(a7:List (List TV)):VT:=⟨[gV,(u0 a1),b8,(BE a2 a3 a4 a5),(gg a6),(u0 a7)],[]⟩
abbrev ej (a1:Int)(a2:TV)(a3 a4:Int)(a5:Bool):VO:=(.cells [(ae a1),a2,(cc a3),(ae a4),(ei a5)])
abbrev N5 (a1:Int)(a2:TV)(a3 a4:Int)(a5:Bool)(a6:List TV):VT:=⟨[gV,bh,b8,(ej a1 a2 a3 a4 a5),(gg a6)],[]⟩
abbrev pV (a1:Int)(a2:List (List TV)):VO:=(.cells [gK,(ae a1),(an a2)])
abbrev HF (a1:Int):VO:=(.cells [gK,(ae a1),aY])
abbrev N6 (a1:VO)(a2:List TV)(a3 a4:Int)(a5:List (List TV)):VT:=⟨[gV,bh,b8,a1,(gg a2),(dX a3 a4 a5)],[]⟩
abbrev kG:TV:=(.ptr 4 0)
abbrev HG (a1:List (List TV))(a2 a3:Int):List TV:= [eV,eG,qC,kG,(.vec 3 a1 .none),(ae a2),(ae a3)]
abbrev pW (a1:Int)(a2:TV)(a3 a4:Int)(a5:Bool)(a6:List TV)(a7 a8:Int)(a9:List (List TV)):VT:=⟨[gV,bh,b8,(ej a1 a2 a3 a4 a5),(gg a6),(dX a7 a8 a9)],[]⟩
abbrev N7:VO:=(.cells [gK,eH,jZ])
abbrev N8:VT:=⟨[gV,N7,N7],[]⟩
abbrev HH:TV:=(.agg [aE,aY,cN,aE,av])
abbrev N9:TV:=(.tup [HH,(.agg [gK,eH,jZ])])
abbrev Oa (a1:Int)(a2:TV):TV:=(.tup [HH,(.agg [gK,(ae a1),a2])])
abbrev HI (a1:List (List TV))(a2:Int)(a3:List (List TV))(a4 a5:Int)(a6:Bool)(a7:List TV):VT:=⟨[gV,(u0 a1),b8,(mG a2 a3 a4 a5 a6),(gg a7)],[]⟩
abbrev Ob (a1 a2 a3:Int)(a4:Bool)(a5 a6 a7:Int)(a8:Bool)(a9:List TV):VT:=⟨[(BE a1 a2 a3 a4),bh,b8,(BE a5 a6 a7 a8),(gg a9)],[]⟩
abbrev Oc (a1 a2 a3:Int)(a4:Bool):TV:=(.tup [(.agg [(ae a1),aY,(cc a2),(ae a3),(ei a4)]),iA])
abbrev HJ (a1:List (List TV))(a2 a3 a4:Int)(a5:Bool)(a6:List TV):VT:=⟨[gV,(u0 a1),b8,(BE a2 a3 a4 a5),(gg a6)],[]⟩
abbrev kH (a1:List (List TV)):TV:=(.tup [HH,(.agg [gK,gK,(tR a1)])])
abbrev BF (a1:List (List TV))(a2:Int):List TV:= [eV,eG,qC,kG,(.vec 3 a1 .none),(ae a2),aE]
abbrev BG:VT:=⟨[gV,bh,b8,gV,(.cells [av,av,av,av,av,av,av,av,av,av,av,av,av,av,av,av,av,av,av,av,av,av,av,av,av,av,av,av,av,av,av,av,av,av,av,av,av,av,av,av,av,av,av,av,av,av,av,av,av,av,av,av,av,av,av,av,av,av,av,av,av,av,av,av,av,av,av,av,av,av,av,av,av,av,av,av,av,av,av,av,av,av,av,av,av,av,av,av,av,av,av,av,av,av,av,av,av,av,av,av,av,av,av,av,av,av,av,av,av,av,av,av,av,av,av,av,av,av,av,av,av,av,av,av,av,av,av,av,av,av,av,av,av,av,av,av,av,av,av,av,av,av,av,av,av,av,av,av,av,av,av,av,av,av,av,av,av,av,av,av,av,av,av,av,av,av,av,av,av,av,av,av,av,av,av,av,av,av,av,av,av,av,av,av,av,av,av,av,av,av,av,av,av,av,av,av,av,av,av,av,av,av,av,av,av,av,av,av,av,av,av,av,av,av,av,av,av,av,av,av,av,av,av,av,av,av,av,av,av,av,av,av,av,av,av,av,av,av,av,av,av,av,av,av,av,av,av,av,av,av,av,av,av,av,av,av])],[]⟩
abbrev BH (a1:Int)(a2:TV)(a3 a4 a5 a6:Int)(a7:List (List TV)):VT:=⟨[(.cells [(ae a1),a2,(cc a3),(ae a4),aF]),(dX a5 a6 a7)],[]⟩
abbrev BI (a1:Int)(a2:List (List TV))(a3 a4:Int)(a5:Bool)(a6 a7:Int)(a8:List (List TV)):VT:=⟨[(mG a1 a2 a3 a4 a5),(dX a6 a7 a8)],[]⟩
abbrev dg (a1:Int)(a2:TV)(a3 a4:Int)(a5:Bool)(a6 a7:Int)(a8:List (List TV)):VT:=⟨[(ej a1 a2 a3 a4 a5),(dX a6 a7 a8)],[]⟩
abbrev xN:TV:=(.val (.int .i64 8))
abbrev cw:VO:=(.cells [eV])
abbrev HK:TV:=(.val (.int .i64 64))
abbrev gW:TV:=(.val (.int .i64 4))
abbrev HL (a1:TV):VO:=(.cells [HK,gW,a1])
abbrev Od (a1:Int)(a2:TV)(a3 a4:Int)(a5:Bool)(a6 a7:Int)(a8:List (List TV))(a9 a10:TV):VT:=⟨[(ej a1 a2 a3 a4 a5),(dX a6 a7 a8),cw,(HL a9),(HL a10)],[]⟩
abbrev sf:TV:=(.val (.int .i64 6))
abbrev HM (a1:TV):VO:=(.cells [HK,eH,a1])
abbrev Oe (a1:Int)(a2:TV)(a3 a4:Int)(a5:Bool)(a6 a7:Int)(a8:List (List TV))(a9 a10:TV):VT:=⟨[(ej a1 a2 a3 a4 a5),(dX a6 a7 a8),cw,(HM a9),(HM a10)],[]⟩
abbrev pX (a1:TV):VO:=(.cells [aE,aE,a1])
abbrev We (a1:TV):VO:=(.cells [(.val (.int .i64 128)),gW,a1])
abbrev u1:TV:=(.val (.int .i64 11))
abbrev Wf (a1:TV):VO:=(.cells [HK,aE,a1])
abbrev n8:TV:=(.val (.int .i64 5))
abbrev sg (a1:List (List TV))(a2:Nat)(a3:Int):List TV:= [aY,av,eV,(eI a1 a2),(ae a3)]
abbrev BJ:List TV:= [aY,av,eV,(.vec 1 [] (.tail 0 0))]
abbrev HN (a1:List (List TV))(a2:Nat)(a3:Int):List TV:= [aY,av,eV,(eI a1 a2),(ae a3),aE]
abbrev jk (a1:List (List TV))(a2:Nat):List TV:= [aY,av,eV,(eI a1 a2)]
abbrev HO (a1:List (List TV))(a2 a3:Int)(a4:List (List TV))(a5 a6:Int):List TV:= [(an a1),(ae a2),(ae a3),(an a4),(ae a5),(ae a6)]
abbrev jQ:VO:=(.cells [gK,eH,aY])
abbrev lN (a1:List (List TV))(a2:Nat):TV:=(.vec 3 a1 (.tail 0 a2))
abbrev na (a1:List (List TV))(a2:Nat):List TV:= [aY,eV,eG,(lN a1 a2)]
abbrev Of:TV:=(.tup [aY,N3])
abbrev BK:List TV:= [aY,eV,eG,(.vec 3 [] (.tail 0 0))]
abbrev u2:TV:=(.agg [aE,aE,cN,aY])
abbrev pY (a1:Int):TV:=(.tup [u2,(.agg [dK,(ae a1),aY])])
abbrev Og (a1 a2 a3:Int):TV:=(.tup [(.agg [(ae a1),(ae a2),(cc a3),aY]),iA])
abbrev kI:VO:=(.cells [dK,gK,aY])
abbrev pZ:TV:=(.tup [u2,(.agg [dK,gK,aY])])
abbrev gX:VO:=(.cells [dK,sf,aY])
abbrev kJ:TV:=(.tup [u2,(.agg [dK,sf,aY])])
abbrev bP (a1 a2 a3:Int):VO:=(.cells [(ae a1),(ae a2),(cc a3),aY])
abbrev p9:VO:=(.cells [dK,dK,aY])
abbrev u3:TV:=(.tup [u2,(.agg [dK,dK,aY])])
abbrev BL (a1:List (List TV)):VO:=(.cells [dK,eH,(tR a1)])
abbrev HP (a1:List (List TV)):TV:=(.tup [u2,(.agg [dK,eH,(tR a1)])])
abbrev bg:VO:=(.cells [aE,aE,cN,aY])
abbrev gB:VO:=(.cells [dK,aE,aY])
abbrev Oh:VT:=⟨[bg,gB],[]⟩
abbrev lO:TV:=(.tup [u2,(.agg [dK,aE,aY])])
abbrev jR:List TV:= [eV,eG,(.ptr 2 0),qC]
abbrev eM (a1:List (List TV))(a2:Nat):TV:=(.vec 2 a1 (.tail 0 a2))
abbrev xO (a1 a2 a3:Int)(a4:List (List TV))(a5:Nat):VO:=(.cells [(ae a1),(ae a2),(cc a3),(eM a4 a5)])
abbrev nb (a1 a2 a3:Int)(a4:TV):VO:=(.cells [(ae a1),(ae a2),(cc a3),a4])
abbrev xP:List TV:= [eV,eG,(.ptr 2 0),qC,kG]
abbrev BM (a1:List (List TV))(a2:Nat):List TV:= [eV,aY,aE,av,(eM a1 a2)]
abbrev BN:TV:=(.vec 2 [] (.tail 0 0))
abbrev Oi:List TV:= [eV,aY,aE,av,BN]
abbrev nc (a1:Int)(a2:List (List TV)):VO:=(.cells [(ae a1),(an a2)])
abbrev u4:VT:=⟨[bh],[]⟩
abbrev kK:TV:=(.tup [iA,av])
abbrev u5 (a1:List (List TV))(a2:Nat):List TV:= [aY,av,eV,(eM a1 a2)]
abbrev u6:TV:=(.tup [aY,av])
abbrev BO:List TV:= [aY,av,eV,BN]
abbrev jS:TV:=(.val (.int .u8 0))
abbrev Oj (a1:Int):VO:=(.cells [(bG a1),jS,jS,jS])
abbrev dm (a1:Int):List TV:= [(bG a1)]
abbrev HQ (a1 a2:Int):TV:=(.agg [(cc a1),(ae a2)])
abbrev nd (a1 a2:Int):TV:=(.tup [(HQ a1 a2),aF])
abbrev Ol:VO:=(.cells [jS,jS,jS,jS])
abbrev dq:VO:=(.cells [cN,aE])
abbrev dr:TV:=(.tup [(.agg [cN,aE]),av])
abbrev eY (a1 a2:Int):VO:=(.cells [(cc a1),(ae a2)])
abbrev HR:TV:=(.val (.int .u64 0))
abbrev xQ (a1:Int):TV:=(.val (.int .u64 a1))
abbrev BP (a1:Int)(a2:List (List TV))(a3 a4:Int):List TV:= [(xQ a1),(an a2),(ae a3),(ae a4)]
abbrev xR (a1:Int):TV:=(.elt [(bG a1)])
abbrev BQ (a1:List (List TV))(a2:Int):List TV:= [HR,(an a1),(ae a2),aE]
abbrev bC (a1:VO):VT:=⟨[a1],[]⟩
abbrev lP:TV:=(.vec 1 [] .full)
abbrev ap:VT:=⟨[],[]⟩
abbrev k6 (a b:Int):Bool:=aT (Value.int i64 a) (Value.int i64 b)
def ah:aV:=λ_=>none
def aZ:FuncId→Option be:=λ_=>none
def aG:Nat→Option (cB × Code):=λ_=>none
abbrev lQ:=41
abbrev kS:=71
abbrev zp:=115
abbrev wu:=111
abbrev j5:=80
abbrev HT:=113
abbrev kT:=76
abbrev jD:=82
abbrev HU:=81
abbrev jb:=72
abbrev ne:=73
abbrev BS:=74
abbrev kU:=69
abbrev u7:=139
abbrev iD:=92
abbrev wv:=121
abbrev mI:=142
abbrev nC:=86
abbrev iE:=87
abbrev lR:=88
abbrev xS:=89
abbrev HV:=91
abbrev j6:=90
abbrev HW:=93
def jW (T:VT)(n:Nat):VT:={T with tails:= [(n,1,false)]}
def jE:be:=λ_ ys T K=>match ys with
 |[.vec 1 b _]=>IsB b∧K (.vec 1 b .none) T
 |_=>False
def C5:List Nat:= [5,10,11,12]
def qa (b:Bs)(n j:Int):List TV:= [.val (.int .u64 n),.vec 1 b .none,.val (.int .i64 b.length),.val (.int .i64 j)]
def W1 (b:Bs)(n:Int)(c0:Code):Nat→Option (cB × Code):=cG [(0,dB 23 C5 [] (qa b 0 0) ⟨[],[]⟩ λK=>K .normal (aJ 23 C5 (qa b n b.length)) ⟨[],[]⟩ [],c0)]
def HX:be:=λro ys T K=>match ys with
 |[.ptr k 0,.val (.int .i64 n)]=>match T.objs[k]? with
  |some (.cells [.val (.bool true),.vec 1 b .none,.val (.int .i64 a),.val (.int .i64 e)])=>(ble ro k=true∧IsB b)∧K (.vec 1 (bv n b e) .none) {T with objs:=T.objs.set k (aN (aC n b e) (bN n b e a) (ar n b e))}
  |_=>False
 |_=>False
def ww:be:=λ_ ys T K=>match ys with
 |[.vec 1 b _,.val (.int .i64 n)]=>(IsB b∧jB n∧tK n b)∧K (.val (.int .u64 (cQ n b))) T
 |_=>False
def zq:be:=λro ys T K=>match ys with
 |[.ptr k 0,.val (.int .i64 n)]=>match T.objs[k]? with
  |some (.cells [.val (.bool true),.vec 1 b .none,.val (.int .i64 a),.val (.int .i64 e)])=>(ble ro k=true∧IsB b∧jB n)∧K (.val (.int .u64 (ji n b e))) {T with objs:=T.objs.set k (aN (aC n b e) (bN n b e a) (ar n b e))}
  |_=>False
 |_=>False
def C6:List Nat:= [8,32,33,34]
def W2 (b:Bs)(n:Int)(c0:Code):Nat→Option (cB × Code):=cG [(0,dB 45 C6 [] (qa b 0 0) ⟨[],[]⟩ λK=>K .normal (aJ 45 C6 (qa b n b.length)) ⟨[],[]⟩ [],c0)]
def xT:be:=λ_ ys T K=>match ys with
 |[.vec 1 b _,.val (.int .i64 a),.val (.int .i64 n)]=>(IsB b∧oT b∧jB n∧a=0)∧K (.tup [.val (.int .u64 (fP n b)),.val (.bool (AI n b))]) T
 |_=>False
def zr:be:=λro ys T K=>match ys with
 |[.ptr j 0,.val (.int .i64 m)]=>match T.objs[j]? with
  |some (.cells [.vec 1 B .none,.val (.int .i64 n),.val (.int .i64 e)])=>(ble ro j=true∧IsB B∧bq B n∧jB m)∧K (.val (.int .u64 (ji m (aa B n) e))) {T with objs:=T.objs.set j (bf B (aX m B n e) (ar m (aa B n) e))}
  |_=>False
 |_=>False
theorem SJ (Q:TV→VT→Prop):au prog ah aZ aM 300 aG 0 lQ [.vec 1 [] .none] ap Q=
 (Q aY ap∧
 Q lP ap):=by kernel_rfl
theorem SK (r:List TV)(b:Bs)(Q:TV→VT→Prop):au prog ah aZ (bc [(999998,.dead,none),(7,.vec 1 (r::b) (.tail 0 (b.length+1)),some λT=>jW T (b.length+1))]) 300 aG 0 lQ [.vec 1 (r::b) .none] ap Q=
 (br prog (λ_=>.none) 0 ap (.call ⟨(.builtin .append),#[(.tmp 5),(.tmp 6)],#[22,22]⟩) [(5,lP),(6,(an ([(r)]++b)))] (eI ([(r)]++b) (length b+(1:Nat))) ⟨[],[((length b+(1:Nat)),(1,false))]⟩∧
 Q (eI ([(r)]++b) (length b+(1:Nat))) ⟨[],[((length b+(1:Nat)),(1,false))]⟩):=by kernel_rfl
theorem SL (b:Bs)(Q:TV→VT→Prop):au prog ah (aI [(lQ,jE)]) aM 300 aG 0 kS [.vec 1 b .none] ap Q=
 (IsB (b)∧
 Q eV ⟨[(.cells [aF,(an b),aE,aE])],[]⟩):=by kernel_rfl
theorem SM (b:Bs)(a e n:Int)(k:Nat)(Q:TV→VT→Prop):au prog ah aZ (bc [(999998,.dead,none),(32,.vec 1 (b.take k) .none,none),(40,.vec 1 (b.drop k) .none,none)]) 300 aG 0 zp [.ptr 0 0,.val (.int .i64 n)] (bC (aN b a e)) Q=
 (bif !aq eql (k6 e (0:Int))
 then Q aY ⟨[(.cells [aF,(an b),(ae a),(ae e)])],[]⟩
 else (bif decide (n<(0:Int))
 then Q aY ⟨[(.cells [aF,(an b),(ae a),dK])],[]⟩
 else (bif decide (n>(↑(length b):Int))
 then Q aY ⟨[(.cells [aF,(an b),(ae a),gK])],[]⟩
 else (ba prog (λ_=>.none) (.slice 22 (.tmp 29) .none (.some (.tmp 30)) (.some (.tmp 31))) [(29,(an b)),(30,(ae n)),(31,(ae n))] (an (List.take k b))∧
 (ba prog (λ_=>.none) (.slice 22 (.tmp 38) (.some (.tmp 39)) .none .none) [(38,(an b)),(39,(ae n))] (an (drop k b))∧
 Q (an (List.take k b)) ⟨[(.cells [aF,(an (drop k b)),(ae (wrap i64 (a+n))),(ae e)])],[]⟩))))):=by kernel_rfl
theorem SN (b c:Bs)(n m:Int)(Q:TV→VT→Prop):au prog ah aZ (bc [(999998,.dead,none),(10,.vec 1 c .none,none)]) 300 (W1 c m (aA prog kU 0)) 0 kU [.vec 1 b .none,.val (.int .i64 n)] ap Q=
 (ba prog (λ_=>.none) (.slice 22 (.tmp 8) .none (.some (.tmp 9)) .none) [(8,(an b)),(9,(ae n))] (an c)∧
 ((aA prog kU (0:Nat)=aA prog kU (0:Nat))∧
 (((@Eq (Option Nat) .none .none)∧
 ((@Eq (Nat) 0 0)∧
 ((@Eq (List Nat) [] [])∧
 (True  ∧
 ((@Eq (VT) ap ap)∧
 ((@Eq (Bool) true true)∧
 (@Eq (List TV) (BQ c (↑(length c):Int)) (BQ c (↑(length c):Int)))))))))∧
 Q (xQ m) ap))):=by kernel_rfl
theorem FC (b:Bs)(n z:Int)(j:Nat)(Q:Exit→List TV→VT→List Nat→Nat→Prop):vx prog ah aZ (bc [(999998,.dead,none),(14,.elt (bT z),none)]) 300 aG none 0 (cM prog kU 0) (aJ 23 C5 (qa b n j)) ap [] (de C5 Q)=
 (bif decide ((↑j:Int)<(↑(length b):Int))
 then (ba prog (λ_=>.none) (.indexAddr 22 (.tmp 10) (.tmp 12)) [(10,(an b)),(12,(ae (↑j:Int)))] (xR z)∧
 Q .normal (BP (wrap u64 (↑(toNat (ofInt (IntKind.bits u64) (wrap u64 (n*(2:Int)^min (Int.toNat (8:Int)) (IntKind.bits u64))) ||| ofInt (IntKind.bits u64) (wrap u64 z))):Int)) b (↑(length b):Int) (wrap i64 ((↑j:Int)+(1:Int)))) ap [] 23)
 else Q (.exit 0) (BP n b (↑(length b):Int) (↑j:Int)) ap [] 23):=by kernel_rfl
theorem SO (b:Bs)(a e n:Int)(Q:TV→VT→Prop):au prog ah (aI [(zp,HX),(kU,ww)]) aM 300 aG 0 wu [.ptr 0 0,.val (.int .i64 n)] (bC (aN b a e)) Q=
 (((@Eq (Bool) true true)∧
 IsB (b))∧
 (bif decide ((↑(length (bv n b e)):Int)<n)
 then Q HR ⟨[(.cells [aF,(an (aC n b e)),(ae (bN n b e a)),(ae (ar n b e))])],[]⟩
 else ((IsB (bv n b e)∧
 (jB (n)∧
 tK (n) (bv n b e)))∧
 Q (xQ (cQ n (bv n b e))) ⟨[(.cells [aF,(an (aC n b e)),(ae (bN n b e a)),(ae (ar n b e))])],[]⟩))):=by kernel_rfl
theorem SP (b:Bs)(a e n:Int)(Q:TV→VT→Prop):au prog ah (aI [(zp,HX),(lQ,jE)]) aM 300 aG 0 j5 [.ptr 0 0,.val (.int .i64 n)] (bC (aN b a e)) Q=
 (((@Eq (Bool) true true)∧
 IsB (b))∧
 (IsB (bv n b e)∧
 Q (an (bv n b e)) ⟨[(.cells [aF,(an (aC n b e)),(ae (bN n b e a)),(ae (ar n b e))])],[]⟩)):=by kernel_rfl
theorem SQ (b:Bs)(a e n:Int)(Q:TV→VT→Prop):au prog ah (aI [(zp,HX),(kS,nr)]) aM 300 aG 0 HT [.ptr 0 0,.val (.int .i64 n)] (bC (aN b a e)) Q=
 (((@Eq (Bool) true true)∧
 IsB (b))∧
 (IsB (bv n b e)∧
 Q eG ⟨[(.cells [aF,(an (aC n b e)),(ae (bN n b e a)),(ae (ar n b e))]),(.cells [aF,(an (bv n b e)),aE,aE])],[]⟩)):=by kernel_rfl
theorem SR (b:Bs)(a e:Int)(Q:TV→VT→Prop):au prog ah aZ aM 300 aG 0 kT [.ptr 0 0] (bC (aN b a e)) Q=
 (bif !aq eql (k6 e (0:Int))
 then Q aE ⟨[(.cells [aF,(an b),(ae a),(ae e)])],[]⟩
 else Q (ae (↑(length b):Int)) ⟨[(.cells [aF,(an b),(ae a),(ae e)])],[]⟩):=by kernel_rfl
theorem ST (b:Bs)(a e:Int)(Q:TV→VT→Prop):au prog ah aZ aM 300 aG 0 jD [.ptr 0 0] (bC (aN b a e)) Q=
Q (ae e) ⟨[(.cells [aF,(an b),(ae a),(ae e)])],[]⟩:=by kernel_rfl
theorem SU (b:Bs)(a e:Int)(Q:TV→VT→Prop):au prog ah (aI [(kT,nJ),(j5,C1)]) aM 300 aG 0 HU [.ptr 0 0] (bC (aN b a e)) Q=
 (((@Eq (Bool) true true)∧
 IsB (b))∧
 (((@Eq (Bool) true true)∧
 IsB (b))∧
 Q (an (bv (bo b e) b e)) ⟨[(.cells [aF,(an (aC (bo b e) b e)),(ae (bN (bo b e) b e a)),(ae (ar (bo b e) b e))])],[]⟩)):=by kernel_rfl
theorem SV (b:Bs)(a e:Int)(Q:TV→VT→Prop):au prog ah (aI [(wu,zq)]) aM 300 aG 0 jb [.ptr 0 0] (bC (aN b a e)) Q=
 (((@Eq (Bool) true true)∧
 (IsB (b)∧
 jB 1))∧
 Q (ae (wrap i64 (ji (1:Int) b e))) ⟨[(.cells [aF,(an (aC (1:Int) b e)),(ae (bN (1:Int) b e a)),(ae (ar (1:Int) b e))])],[]⟩):=by kernel_rfl
theorem PF (b:Bs)(a e:Int)(Q:TV→VT→Prop):au prog ah (aI [(wu,zq)]) aM 300 aG 0 ne [.ptr 0 0] (bC (aN b a e)) Q=
 (((@Eq (Bool) true true)∧
 (IsB (b)∧
 jB 2))∧
 Q (ae (wrap i64 (ji (2:Int) b e))) ⟨[(.cells [aF,(an (aC (2:Int) b e)),(ae (bN (2:Int) b e a)),(ae (ar (2:Int) b e))])],[]⟩):=by kernel_rfl
theorem PG (b:Bs)(a e:Int)(Q:TV→VT→Prop):au prog ah (aI [(wu,zq)]) aM 300 aG 0 BS [.ptr 0 0] (bC (aN b a e)) Q=
 (((@Eq (Bool) true true)∧
 (IsB (b)∧
 jB 4))∧
 Q (cc (wrap u32 (ji (4:Int) b e))) ⟨[(.cells [aF,(an (aC (4:Int) b e)),(ae (bN (4:Int) b e a)),(ae (ar (4:Int) b e))])],[]⟩):=by kernel_rfl
theorem PH (b:Bs)(Q:TV→VT→Prop):au prog ah (aI [(kU,ww)]) (bc [(999998,.dead,none),(12,.vec 1 b .none,none)]) 300 aG 0 u7 [.vec 1 b .none,.val (.int .i64 0)] ap Q=
 (bif !decide ((0:Int)≤wrap i64 ((↑(length b):Int)-(4:Int)))
 then Q (.tup [cN,av]) ap
 else (ba prog (λ_=>.none) (.slice 22 (.tmp 10) (.some (.tmp 11)) .none .none) [(10,(an b)),(11,aE)] (an b)∧
 ((IsB (b)∧
 (jB 4∧
 tK 4 (b)))∧
 Q (.tup [(cc (wrap u32 (cQ (4:Int) b))),aF]) ap))):=by kernel_rfl
theorem SW (B:Bs)(n e m:Int)(k:Nat)(Q:TV→VT→Prop):au prog ah aZ (bc [(999998,.dead,none),(46,.vec 1 ((aa B n).take k) .none,none),(47,.vec 1 ((aa B n).take k) (.tail 0 ((aa B n).take k).length),some λT=>jW T ((aa B n).take k).length)]) 300 aG 0 iD [.ptr 0 0,.val (.int .i64 m)] (bC (bf B n e)) Q=
 (bif aq neq (k6 e (0:Int))
 then Q aY ⟨[(.cells [(an B),(ae n),(ae e)])],[]⟩
 else (bif decide (m<(0:Int))
 then Q aY ⟨[(.cells [(an B),(ae n),dK])],[]⟩
 else (bif decide (m>wrap i64 ((↑(length B):Int)-n))
 then Q aY ⟨[(.cells [(an B),(ae n),gK])],[]⟩
 else (ba prog (λ_=>.none) (.slice 22 (.tmp 35) (.some (.tmp 39)) (.some (.tmp 45)) .none) [(35,(an B)),(39,(ae n)),(45,(ae (wrap i64 (n+m))))] (an (List.take k (aa B n)))∧
 (br prog (λ_=>.none) 0 ⟨[(.cells [(an B),(ae n),(ae e)])],[]⟩ (.call ⟨(.builtin .append),#[(.tmp 31),(.tmp 46)],#[22,22]⟩) [(31,lP),(46,(an (List.take k (aa B n))))] (eI (List.take k (aa B n)) (length (List.take k (aa B n)))) ⟨[(.cells [(an B),(ae n),(ae e)])],[((length (List.take k (aa B n))),(1,false))]⟩∧
 Q (eI (List.take k (aa B n)) (length (List.take k (aa B n)))) ⟨[(.cells [(an B),(ae (wrap i64 (n+m))),(ae e)])],[((length (List.take k (aa B n))),(1,false))]⟩))))):=by kernel_rfl
theorem SX (b c:Bs)(n m:Int)(Q:TV→VT→Prop):au prog ah aZ (bc [(999998,.dead,none),(32,.vec 1 c .none,none)]) 300 (W2 c m (aA prog mI 0)) 0 mI [.vec 1 b .none,.val (.int .i64 0),.val (.int .i64 n)] ap Q=
 (bif decide (wrap i64 ((↑(length b):Int)-(0:Int))<n)
 then Q (.tup [HR,av]) ap
 else (ba prog (λ_=>.none) (.slice 22 (.tmp 27) (.some (.tmp 28)) (.some (.tmp 31)) .none) [(27,(an b)),(28,aE),(31,(ae (wrap i64 ((0:Int)+n))))] (an c)∧
 ((aA prog mI (0:Nat)=aA prog mI (0:Nat))∧
 (((@Eq (Option Nat) .none .none)∧
 ((@Eq (Nat) 0 0)∧
 ((@Eq (List Nat) [] [])∧
 (True  ∧
 ((@Eq (VT) ap ap)∧
 ((@Eq (Bool) true true)∧
 (@Eq (List TV) (BQ c (↑(length c):Int)) (BQ c (↑(length c):Int)))))))))∧
 Q (.tup [(xQ m),aF]) ap)))):=by kernel_rfl
theorem FD (b:Bs)(n z:Int)(j:Nat)(Q:Exit→List TV→VT→List Nat→Nat→Prop):vx prog ah aZ (bc [(999998,.dead,none),(36,.elt (bT z),none)]) 300 aG none 0 (cM prog mI 0) (aJ 45 C6 (qa b n j)) ap [] (de C6 Q)=
 (bif decide ((↑j:Int)<(↑(length b):Int))
 then (ba prog (λ_=>.none) (.indexAddr 22 (.tmp 32) (.tmp 34)) [(32,(an b)),(34,(ae (↑j:Int)))] (xR z)∧
 Q .normal (BP (wrap u64 (↑(toNat (ofInt (IntKind.bits u64) (wrap u64 (n*(2:Int)^min (Int.toNat (8:Int)) (IntKind.bits u64))) ||| ofInt (IntKind.bits u64) (wrap u64 z))):Int)) b (↑(length b):Int) (wrap i64 ((↑j:Int)+(1:Int)))) ap [] 45)
 else Q (.exit 0) (BP n b (↑(length b):Int) (↑j:Int)) ap [] 45):=by kernel_rfl
theorem SY (b:Bs)(Q:TV→VT→Prop):au prog ah aZ (bc [(999998,.dead,none),(5,.vec 1 b (.tail 0 b.length),some λT=>jW T b.length)]) 300 aG 0 nC [.vec 1 b .none] ap Q=
 (br prog (λ_=>.none) 0 ap (.call ⟨(.builtin .append),#[(.tmp 3),(.tmp 4)],#[22,22]⟩) [(3,lP),(4,(an b))] (eI b (length b)) ⟨[],[((length b),(1,false))]⟩∧
 Q eV ⟨[(.cells [(eI b (length b)),aE,aE])],[((length b),(1,false))]⟩):=by kernel_rfl
theorem SZ (B:Bs)(n e m:Int)(Q:TV→VT→Prop):au prog ah (aI [(iD,xI),(mI,xT)]) aM 300 aG 0 wv [.ptr 0 0,.val (.int .i64 m)] (bC (bf B n e)) Q=
 (((@Eq (Bool) true true)∧
 (IsB (B)∧
 bq (B) (n)))∧
 ((IsB (bv m (aa B n) e)∧
 (oT (bv m (aa B n) e)∧
 (jB (m)∧
 (@Eq (Int) 0 0))))∧
 Q (xQ (fP m (bv m (aa B n) e))) ⟨[(.cells [(an B),(ae (aX m B n e)),(ae (ar m (aa B n) e))])],[]⟩)):=by kernel_rfl
theorem S1 (B:Bs)(n e:Int)(Q:TV→VT→Prop):au prog ah (aI [(wv,zr)]) aM 300 aG 0 iE [.ptr 0 0] (bC (bf B n e)) Q=
 (((@Eq (Bool) true true)∧
 (IsB (B)∧
 (bq (B) (n)∧
 jB 1)))∧
 Q (ae (wrap i64 (ji (1:Int) (aa B n) e))) ⟨[(.cells [(an B),(ae (aX (1:Int) B n e)),(ae (ar (1:Int) (aa B n) e))])],[]⟩):=by kernel_rfl
theorem PI (B:Bs)(n e:Int)(Q:TV→VT→Prop):au prog ah (aI [(wv,zr)]) aM 300 aG 0 lR [.ptr 0 0] (bC (bf B n e)) Q=
 (((@Eq (Bool) true true)∧
 (IsB (B)∧
 (bq (B) (n)∧
 jB 2)))∧
 Q (ae (wrap i64 (ji (2:Int) (aa B n) e))) ⟨[(.cells [(an B),(ae (aX (2:Int) B n e)),(ae (ar (2:Int) (aa B n) e))])],[]⟩):=by kernel_rfl
theorem PJ (B:Bs)(n e:Int)(Q:TV→VT→Prop):au prog ah (aI [(wv,zr)]) aM 300 aG 0 xS [.ptr 0 0] (bC (bf B n e)) Q=
 (((@Eq (Bool) true true)∧
 (IsB (B)∧
 (bq (B) (n)∧
 jB 4)))∧
 Q (cc (wrap u32 (ji (4:Int) (aa B n) e))) ⟨[(.cells [(an B),(ae (aX (4:Int) B n e)),(ae (ar (4:Int) (aa B n) e))])],[]⟩):=by kernel_rfl
theorem S2 (B:Bs)(n e m:Int)(Q:TV→VT→Prop):au prog ah (aI [(iD,xI),(nC,iJ)]) aM 300 aG 0 HV [.ptr 0 0,.val (.int .i64 m)] (bC (bf B n e)) Q=
 (((@Eq (Bool) true true)∧
 (IsB (B)∧
 bq (B) (n)))∧
 ((IsB (bv m (aa B n) e)∧
 oT (bv m (aa B n) e))∧
 Q eG ⟨[(.cells [(an B),(ae (aX m B n e)),(ae (ar m (aa B n) e))]),(.cells [(an (bv m (aa B n) e)),aE,aE])],[]⟩)):=by kernel_rfl
theorem S3 (B:Bs)(n e:Int)(Q:TV→VT→Prop):au prog ah aZ aM 300 aG 0 j6 [.ptr 0 0] (bC (bf B n e)) Q=
 (bif aq neq (k6 e (0:Int))
 then Q aE ⟨[(.cells [(an B),(ae n),(ae e)])],[]⟩
 else Q (ae (wrap i64 ((↑(length B):Int)-n))) ⟨[(.cells [(an B),(ae n),(ae e)])],[]⟩):=by kernel_rfl
theorem S4 (B:Bs)(n e:Int)(Q:TV→VT→Prop):au prog ah (aI [(j6,ns),(iD,xI)]) aM 300 aG 0 HW [.ptr 0 0] (bC (bf B n e)) Q=
 (((@Eq (Bool) true true)∧
 (IsB (B)∧
 bq (B) (n)))∧
 (((@Eq (Bool) true true)∧
 (IsB (B)∧
 bq (B) (n)))∧
 Q (an (bv (bo (aa B n) e) (aa B n) e)) ⟨[(.cells [(an B),(ae (aX (bo (aa B n) e) B n e)),(ae (ar (bo (aa B n) e) (aa B n) e))])],[]⟩)):=by kernel_rfl
theorem ag:prog.follows .mixedOrders=true:=by kernel_rfl
theorem ac:jz prog=true:=by kernel_rfl
theorem aP:dd ah:=λ_ _ h=>by cases h
theorem tT (q:IntKind)(x y:Int):aq eql (aT (.int q x) (.int q y))=decide (x=y):=by
 simp [aq,aT,dh,Bool.beq_eq_decide_eq]
theorem cC (q:IntKind)(x y:Int):aq neq (aT (.int q x) (.int q y))= !decide (x=y):=by
 simp [aq,aT,dh,Bool.beq_eq_decide_eq]
theorem dj:∃inf:TypeInfo,prog.info? 5=some inf∧inf.size=1∧inf.bytes+1=2∧inf.zero=some (.int .u8 0):=
 ⟨(prog.info? 5).getD default,by kernel_rfl,by kernel_rfl,by kernel_rfl,by kernel_rfl⟩
section
variable {x i m:Operand}{l:List (Nat × TV)}{b:Bs}{tok:Tok}{k k':IntKind}{z z':Int}{e:List TV}{n n':Nat}
theorem q9 (hx:aL ah l x=.vec 1 b tok)(hz:aL ah l i=.val (.int k z))(h0:0≤z)(he:b[z.toNat]?=some e):
  ba prog ah (.indexAddr 22 x i) l (.elt e):=by
 obtain ⟨inf,i1,i2,_,_⟩:=dj
 exact dZ (inf:=inf) underlying22 i1 (by rw [i2];exact hx) hz h0 he
theorem nt (hx:aL ah l x=.vec 1 b tok)(hz:aL ah l i=.val (.int k z))(h0:0≤z)(hn:z.toNat=n)(he:n≤b.length):ba prog ah (.slice 22 x none (some i) none) l (.vec 1 (b.take n) .none):=by
 subst hn
 obtain ⟨inf,i1,i2,_,_⟩:=dj
 have h:=wi (inf:=inf) (P:=prog) (G:=ah) (x:=x) (i:=i) (l:=l) (es:=b) (tok:=tok) underlying22 i1 (by rw [i2];exact hx) hz h0 he
 rw [i2] at h
 exact h
theorem tU (hx:aL ah l x=.vec 1 b tok)(hz:aL ah l i=.val (.int k z))(h0:0≤z)(hn:z.toNat=n)(he:n≤b.length):ba prog ah (.slice 22 x (some i) none none) l (.vec 1 (b.drop n) tok):=by
 subst hn
 obtain ⟨inf,i1,i2,_,_⟩:=dj
 have h:=wj (inf:=inf) (P:=prog) (G:=ah) (x:=x) (i:=i) (l:=l) (es:=b) (tok:=tok) underlying22 i1 (by rw [i2];exact hx) hz h0 he
 rw [i2] at h
 exact h
theorem JA (hx:aL ah l x=.vec 1 b tok)(hz:aL ah l i=.val (.int k z))(hm:aL ah l m=.val (.int k' z))(h0:0≤z)(hn:z.toNat=n)(he:n≤b.length):ba prog ah (.slice 22 x none (some i) (some m)) l (.vec 1 (b.take n) .none):=by
 subst hn
 obtain ⟨inf,i1,i2,_,_⟩:=dj
 refine ⟨?_⟩
 have h1:ble z.toNat b.length=true:=Nat.ble_eq_true_of_le he
 have h2:ble 0 z.toNat=true:=Nat.ble_eq_true_of_le (zero_le _)
 have h3:ble z.toNat z.toNat=true:=Nat.ble_eq_true_of_le (le_refl _)
 simp [bu,hx,hz,hm,iU,underlying22,i1,i2,fq,fp,h0,h1,h2,h3]
theorem AJ (hx:aL ah l x=.vec 1 b tok)(hz:aL ah l i=.val (.int k z))(hm:aL ah l m=.val (.int k' z'))(h0:0≤z)(hle:z≤z')(hn:z.toNat=n)(hn':z'.toNat=n')(he:n' ≤b.length):ba prog ah (.slice 22 x (some i) (some m) none) l (.vec 1 ((b.take n').drop n) .none):=by
 subst hn hn'
 obtain ⟨inf,i1,i2,_,_⟩:=dj
 refine ⟨?_⟩
 have h1:z.toNat≤z'.toNat:=by omega
 have h2:0≤z':=by omega
 simp [bu,hx,hz,hm,iU,gp,ot,nh,underlying22,i1,i2,fq,fp,h0,h1,h2,he]
theorem FE {ro:Nat}{T T1:VT}{s:Operand}{es es2:Bs}{bn:Bool}{k n:Nat}(hs:cE T 1 (aL ah l s)=some (es,k,n,bn,T1))(hx:gf 1 (aL ah l x)=some es2)(hb:es.length+es2.length≤70368744177664):
  br prog ah ro T (.call ⟨.builtin .append,#[s,x],#[22,22]⟩) l (.vec 1 (es++es2) (.tail k (n+es2.length))) {T1 with tails:=T1.tails.set k (n+es2.length,1,bn)}:=by
 obtain ⟨inf,i1,i2,i3,i4⟩:=dj
 have h:=fb (inf:=inf) (P:=prog) (G:=ah) (ro:=ro) (T:=T) (T1:=T1) (t:=22) (tx:=22) (s:=s) (x:=x) (l:=l) (es:=es) (es2:=es2) (k:=k) (n:=n) (bn:=bn) underlying22 i1 i4 (by rw [i2];rfl) (by rw [i2];decide) (by kernel_rfl) (by rw [i2];exact hs) (by rw [i2];exact hx)
  (by rw [i3];omega)
 rw [i2] at h
 exact h
end
theorem mJ {ro:Nat}(objs:List VO)(c:Bs)(hc:c.length≤32000000)(s x:Nat)(hne:beq s x=false):br prog ah ro ⟨objs,[]⟩ (.call ⟨.builtin .append,#[.tmp s,.tmp x],#[22,22]⟩) [(s,.vec 1 [] .full),(x,.vec 1 c .none)] (.vec 1 c (.tail 0 c.length)) ⟨objs,[(c.length,1,false)]⟩:=by
 have h:=FE (ro:=ro) (T:=⟨objs,[]⟩) (T1:=⟨objs,[(0,1,false)]⟩) (s:=.tmp s) (x:=.tmp x) (l:= [(s,.vec 1 [] .full),(x,.vec 1 c .none)]) (es:= []) (es2:=c) (k:=0) (n:=0) (bn:=false)
  (by simp [aL,dT,cE]) (by simp [aL,dT,hne,gf]) (by simp only [List.length_nil];omega)
 simp only [List.nil_append,Nat.zero_add] at h
 exact h
theorem S5 {b:Bs}(hb:IsB b):VCx prog ah 0 lQ [.vec 1 b .none] ⟨[],[]⟩ λx T'=>x=.vec 1 b .none∧T'=⟨[],[]⟩:=by
 refine VCx.asVec (Q:=λT'=>T'=⟨[],[]⟩) (VCx.keepQ 0 0 (le_refl _) (le_refl _) ?_)
 cases b with
 |nil=>exact aj ag ac am ai (SJ _) ⟨⟨.inl ⟨rfl,rfl⟩,rfl⟩,⟨.inr ⟨_,rfl⟩,rfl⟩⟩
 |cons r b=>
  refine aj ag ac am ai (SK r b _) ⟨mJ [] (r::b) hb.small 5 6 rfl,.inr ⟨.none,?_⟩,rfl⟩
  have:=hb.ren (ax 0) (ax 0)
  simp only [TV.ren,Tok.ren]
  rw [show [r]++b=r::b from rfl,this];rfl
theorem lp:∀ro ys T K,jE ro ys T K→VCx prog ah ro lQ ys T K:=by
 intro ro ys T K hw
 unfold jE at hw
 split at hw
 ·rename_i b tok
  obtain ⟨hb,hk⟩:=hw
  exact VCx.loosePure aP (S5 hb) (by simp [cA]) (by simp [aB,TV.ren,hb.ren,Tok.ren]) (λf h=>by simp only [TV.ren,hb.ren,Tok.ren]) hk
 ·exact hw.elim
theorem PL {b:Bs}(hb:IsB b):VCx prog ah 0 kS [.vec 1 b .none] ⟨[],[]⟩ λx T'=>x=.ptr 0 0∧T'=⟨[aN b 0 0],[]⟩:=
 aj ag ac (aQ λp hp=>by obtain rfl:=mem_singleton.1 hp;exact lp) ai (SL b _) ⟨hb,rfl,rfl⟩
theorem u9:∀ro ys T K,nr ro ys T K→VCx prog ah ro kS ys T K:=Jx aP λ_ hb=>PL hb
def AK (n:Int)(b:Bs)(a e:Int):VT:=⟨[aN (aC n b e) (bN n b e a) (ar n b e)],[]⟩
theorem PM (b:Bs)(a e n:Int):VCx prog ah 0 zp [.ptr 0 0,.val (.int .i64 n)] ⟨[aN b a e],[]⟩ λx T'=>x=.vec 1 (bv n b e) .none∧T'=AK n b a e:=by
 refine VCx.asVec (Q:=λT'=>T'=AK n b a e) (aj ag ac am ai (SM b a e n n.toNat _) ?_)
 by_cases he:e=0
 ·subst he
  have he:(0:Int)=0:=rfl
  refine aO (by rw [tT,decide_eq_true he];rfl) ?_
  by_cases hn:n<0
  ·have hk:cJ n b 0=false:=by simp only [cJ,and_eq_false_iff,decide_eq_false_iff_not];omega
   refine aU (decide_eq_true hn) ⟨.inl ⟨rfl,by simp only [bv,hk,cond_false]⟩,?_⟩
   simp only [AK,aC,bN,ar,hk,cond_false,decide_true,decide_eq_true hn,cond_true];rfl
  ·refine aO (decide_eq_false hn) ?_
   by_cases hl:n≤b.length
   ·have hk:cJ n b 0=true:=by simp only [cJ,decide_true,decide_eq_true hl,decide_eq_true (show 0≤n by omega)];rfl
    have h1:n.toNat≤b.length:=by omega
    refine aO (decide_eq_false (by omega)) ⟨JA rfl rfl rfl (by omega) rfl h1,tU rfl rfl (by omega) rfl h1,.inr ⟨.none,by simp only [bv,hk,cond_true]⟩,?_⟩
    simp only [AK,aC,bN,ar,hk,decide_true,decide_eq_false hn,decide_eq_true hl,cond_true,cond_false];rfl
   ·have hk:cJ n b 0=false:=by simp only [cJ,and_eq_false_iff,decide_eq_false_iff_not];omega
    refine aU (decide_eq_true (by omega)) ⟨.inl ⟨rfl,by simp only [bv,hk,cond_false]⟩,?_⟩
    simp only [AK,aC,bN,ar,hk,decide_true,decide_eq_false hn,decide_eq_false hl,cond_false,cond_true];rfl
 ·have hk:cJ n b e=false:=by simp only [cJ,and_eq_false_iff,decide_eq_false_iff_not];omega
  refine aU (by rw [tT,decide_eq_false he];rfl) ⟨.inl ⟨rfl,by simp only [bv,hk,cond_false]⟩,?_⟩
  simp only [AK,aC,bN,ar,hk,decide_eq_false he,cond_false];rfl
theorem zt:∀ro ys T K,HX ro ys T K→VCx prog ah ro zp ys T K:=Jv aP λb a e n _=>PM b a e n
theorem FF {c:Bs}{j:Nat}{r:List TV}(h:c[j]?=some r):io (c.take (j+1))=io (c.take j)*256+hZ r:=by
 rw [List.take_add_one,h];exact PE _ _
theorem Om {c:Bs}(h:IsB c){j:Nat}(hj:j<8):0≤io (c.take j)∧(j<8→io (c.take j)<72057594037927936):=by
 obtain ⟨⟨l,hl,hz⟩,_⟩:=h.take j
 have hlen:l.length≤7:=by
  have:=congrArg length hl
  simp only [bV,List.length_map,length_take] at this
  omega
 rw [hl]
 obtain ⟨h1,h2⟩:=tJ hz
 refine ⟨h1,λ_=>Int.lt_of_lt_of_le h2 ?_⟩
 have h3:(256:Int)^l.length≤256^7:=by
  exact_mod_cast Nat.pow_le_pow_right (by decide:0<256) hlen
 exact h3
theorem JB (c:Bs)(hc:IsB c)(h8:c.length≤8)(K:KX)(hK:K .normal (aJ 23 C5 (qa c (io c) c.length)) ⟨[],[]⟩ []):VWx prog ah none 0 (aA prog kU 0) (aJ 23 C5 (qa c 0 0)) ⟨[],[]⟩ [] K:=by
 let sl:Nat→List TV:=λj=>qa c (io (c.take j)) j
 let Post:Exit→List TV→VT→Prop:=λe vs T=>e=.normal∧vs=sl c.length∧T=⟨[],[]⟩
 refine dW (f:=kU) (id:=0) (by kernel_rfl) 23 C5 (λj=>c.length-j) sl (λ_=>⟨[],[]⟩) (λj=>j≤c.length) 0 0 (λ_ _=>⟨le_refl _,le_refl _⟩)
  Post (λj hj=> ?_) 0 (zero_le _) K (λe vs T ⟨h1,h2,h3⟩=> ?_)
 ·by_cases hlt:j<c.length
  ·have hs:c[j]?=some c[j]:=List.getElem?_eq_getElem hlt
   generalize c[j]=r at hs
   obtain ⟨z,rfl,hz0,hz1⟩:=hc.at hs
   have hw:=Bu j (by omega)
   obtain ⟨hb0,hb1⟩:=Om hc (j:=j) (by omega)
   have hor:=cV hb0 (hb1 (by omega)) hz0 hz1
   refine cg ag ac am ai (FC c (io (c.take j)) z j _) ?_
   refine aU (decide_eq_true (by omega)) ⟨q9 rfl rfl (Int.natCast_nonneg _) (by rw [toNat_natCast];exact hs),rfl,rfl,j+1,hlt,by simp only;omega,.inr ⟨rfl,?_⟩⟩
   rw [hor,hw]
   simp only [aB,TV.ren,hc.ren,Tok.ren]
   simp only [sl,qa,FF hs,hZ,bT]
  ·obtain rfl:j=c.length:=by omega
   refine cg ag ac am ai (FC c (io (c.take c.length)) 0 c.length _) ?_
   exact aO (decide_eq_false (by omega)) ⟨rfl,rfl,rfl,rfl,rfl⟩
 ·subst h1 h2 h3
  simp only [sl,take_length]
  exact hK
theorem L9 (c:Bs)(hc:IsB c)(h8:c.length≤8):dD prog ah (W1 c (io c) (aA prog kU 0)):=bL λp hp=>by
 obtain rfl:=mem_singleton.1 hp
 exact ce λK hK=>JB c hc h8 K hK
theorem PN {b:Bs}(hb:IsB b){n:Int}(hn:jB n)(hl:tK n b):VCx prog ah 0 kU [.vec 1 b .none,.val (.int .i64 n)] ⟨[],[]⟩ λx T'=>x=.val (.int .u64 (cQ n b))∧T'=⟨[],[]⟩:=by
 obtain ⟨h0,h8⟩:=hn
 have h1:n.toNat≤b.length:=by unfold tK at hl;omega
 refine aj ag ac am (L9 (b.take n.toNat) (hb.take _) (by rw [length_take];omega)) (SN b (b.take n.toNat) n (io (b.take n.toNat)) _) ?_
 exact ⟨nt rfl rfl h0 rfl h1,rfl,⟨rfl,rfl,rfl,trivial,rfl,rfl,rfl⟩,rfl,rfl⟩
theorem zu:∀ro ys T K,ww ro ys T K→VCx prog ah ro kU ys T K:=by
 intro ro ys T K hw
 unfold ww at hw
 split at hw
 ·rename_i b tok n
  obtain ⟨⟨hb,hn,hl⟩,hk⟩:=hw
  exact VCx.loosePure aP (PN hb hn hl) (by simp [cA]) (by simp [aB,TV.ren,hb.ren,Tok.ren]) (λf h=>rfl) hk
 ·exact hw.elim
theorem PO {b:Bs}(hb:IsB b)(a e:Int){n:Int}(hn:jB n):VCx prog ah 0 wu [.ptr 0 0,.val (.int .i64 n)] ⟨[aN b a e],[]⟩ λx T'=>x=.val (.int .u64 (ji n b e))∧T'=AK n b a e:=by
 refine aj ag ac (aQ λp hp=>by rcases mem_cons.1 hp with rfl | hp;exact zt;obtain rfl:=mem_singleton.1 hp;exact zu) ai (SO b a e n _) ⟨⟨rfl,hb⟩,?_⟩
 by_cases h:((bv n b e).length:Int)<n
 ·exact aU (decide_eq_true h) ⟨by rw [Ju h],rfl⟩
 ·exact aO (decide_eq_false h) ⟨⟨eg hb,hn,by unfold tK;omega⟩,by rw [Jt hn.1 (by omega)],rfl⟩
theorem PP:∀ro ys T K,zq ro ys T K→VCx prog ah ro wu ys T K:=by
 intro ro ys T K hw
 unfold zq at hw
 split at hw
 ·rename_i k n
  split at hw
  ·rename_i b a e ho
   obtain ⟨⟨hro,hb,hn⟩,hk⟩:=hw
   refine VCx.at1 (Q:=λx o' l'=>x=.val (.int .u64 (ji n b e))∧o'=aN (aC n b e) (bN n b e a) (ar n b e)∧l'= []) aP (le_of_ble_eq_true hro) ho rfl (bW hb a e _ _) (ys1:= [.ptr 0 0,.val (.int .i64 n)]) (by simp [aB,TV.ren,bb]) ((PO hb a e hn).mono λx T' ⟨h1,h2⟩=>⟨_,_,h2,h1,rfl,rfl⟩) ?_
   rintro x o' l' ⟨rfl,rfl,rfl⟩
   rw [bW (aH hb)]
   simpa [TV.ren] using hk
  ·exact hw.elim
 ·exact hw.elim
theorem C7 {f:FuncId}{kind:IntKind}{n:Nat}(hn:jB n)(hw:∀z:Int,0≤z→z<256^n→kind.wrap z=z)
  (h:∀(b:Bs) (a e:Int) (Q:TV→VT→Prop),IsB b→Q (.val (.int kind (kind.wrap (ji n b e)))) (AK n b a e)→VCx prog ah 0 f [.ptr 0 0] ⟨[aN b a e],[]⟩ Q):
  ∀ro ys T K,mi kind n ro ys T K→VCx prog ah ro f ys T K:=Sg aP λb a e hb=>by
 obtain ⟨h1,h2⟩:=q8 (n:=n) hb e
 exact h b a e _ hb ⟨by rw [hw _ h1 h2,qZ],rfl⟩
theorem C8:bk prog ah (aI [(wu,zq)]):=aQ λp hp=>by obtain rfl:=mem_singleton.1 hp;exact PP
theorem ra:∀ro ys T K,mi .i64 1 ro ys T K→VCx prog ah ro jb ys T K:=
 C7 ⟨by decide,by decide⟩ (λz h0 h1=>by simp only [wrap,IntKind.bits,signed];simp;omega) λb a e _ hb hq=>aj ag ac C8 ai (SV b a e _) ⟨⟨rfl,hb,⟨by decide,by decide⟩⟩,hq⟩
theorem va:∀ro ys T K,mi .i64 2 ro ys T K→VCx prog ah ro ne ys T K:=
 C7 ⟨by decide,by decide⟩ (λz h0 h1=>by simp only [wrap,IntKind.bits,signed];simp;omega) λb a e _ hb hq=>aj ag ac C8 ai (PF b a e _) ⟨⟨rfl,hb,⟨by decide,by decide⟩⟩,hq⟩
theorem PQ:∀ro ys T K,mi .u32 4 ro ys T K→VCx prog ah ro BS ys T K:=
 C7 ⟨by decide,by decide⟩ (λz h0 h1=>by simp only [wrap,IntKind.bits,signed];simp;omega) λb a e _ hb hq=>aj ag ac C8 ai (PG b a e _) ⟨⟨rfl,hb,⟨by decide,by decide⟩⟩,hq⟩
theorem tV:∀ro ys T K,C1 ro ys T K→VCx prog ah ro j5 ys T K:=Jv aP λb a e n hb=>
 aj ag ac (aQ λp hp=>by rcases mem_cons.1 hp with rfl | hp;exact zt;obtain rfl:=mem_singleton.1 hp;exact lp) ai (SP b a e n _) ⟨⟨rfl,hb⟩,eg hb,rfl,rfl⟩
theorem S6:∀ro ys T K,xH ro ys T K→VCx prog ah ro HT ys T K:=L0 aP λb a e n hb=>
 aj ag ac (aQ λp hp=>by rcases mem_cons.1 hp with rfl | hp;exact zt;obtain rfl:=mem_singleton.1 hp;exact u9) ai (SQ b a e n _) ⟨⟨rfl,hb⟩,eg hb,rfl,rfl⟩
theorem oY:∀ro ys T K,nJ ro ys T K→VCx prog ah ro kT ys T K:=Sh aP λb a e hb=>by
 refine aj ag ac am ai (SR b a e _) ?_
 by_cases he:e=0
 ·exact aO (by rw [tT,decide_eq_true he];rfl) ⟨by simp only [bo,decide_eq_true he,cond_true],rfl⟩
 ·exact aU (by rw [tT,decide_eq_false he];rfl) ⟨by simp only [bo,decide_eq_false he,cond_false],rfl⟩
theorem rc:∀ro ys T K,mj ro ys T K→VCx prog ah ro jD ys T K:=Si aP λb a e _=>
 aj ag ac am ai (ST b a e _) ⟨rfl,rfl⟩
theorem S7:∀ro ys T K,tM ro ys T K→VCx prog ah ro HU ys T K:=Jw aP λb a e hb=>
 aj ag ac (aQ λp hp=>by rcases mem_cons.1 hp with rfl | hp;exact oY;obtain rfl:=mem_singleton.1 hp;exact tV) ai (SU b a e _) ⟨⟨rfl,hb⟩,⟨rfl,hb⟩,rfl,rfl⟩
--bumped 32
theorem bE {z:Int}(h0:-1000000000000000≤z)(h1:z≤1000000000000000):i64.wrap z=z:=by
 simp only [wrap,IntKind.bits,signed];simp;omega
def sR (m:Int)(B:Bs)(n e:Int):VT:=⟨[bf B (aX m B n e) (ar m (aa B n) e)],[]⟩
theorem C9 {B:Bs}{n:Int}(h:bq B n):((aa B n).length:Int)=B.length-n:=by
 obtain ⟨h1,h2,h3⟩:=h
 simp only [aa,length_drop];omega
theorem PR {b:Bs}(hb:IsB b):VCx prog ah 0 nC [.vec 1 b .none] ⟨[],[]⟩ λx T'=>x=.ptr 0 0∧T'=⟨[bf b 0 0],[]⟩:=by
 refine VCx.keepQ 1 0 (zero_le _) (le_refl _) (aj ag ac am ai (SY b _) ⟨mJ [] b hb.small 3 4 rfl,rfl,?_⟩)
 simp only [VT.keep,take_succ_cons,take_zero,map_cons,map_nil,VO.ren,aB,TV.ren,hb.ren,Tok.ren];rfl
theorem oA:∀ro ys T K,iJ ro ys T K→VCx prog ah ro nC ys T K:=Jz aP λ_ hb _=>PR hb
theorem PS {B:Bs}(hB:IsB B){n:Int}(hn:bq B n)(e m:Int):VCx prog ah 0 iD [.ptr 0 0,.val (.int .i64 m)] ⟨[bf B n e],[]⟩ λx T'=>x=.vec 1 (bv m (aa B n) e) .none∧T'=sR m B n e:=by
 refine VCx.asVec (Q:=λT'=>T'=sR m B n e) (VCx.keepQ 1 0 (le_refl _) (le_refl _) (aj ag ac am ai (SW B n e m m.toNat _) ?_))
 have hrl:=C9 hn
 obtain ⟨h1,h2,h3⟩:=hn
 by_cases he:e=0
 ·subst he
  refine aO (by rw [cC];rfl) ?_
  by_cases hm:m<0
  ·have hk:cJ m (aa B n) 0=false:=by simp only [cJ,and_eq_false_iff,decide_eq_false_iff_not];omega
   refine aU (decide_eq_true hm) ⟨.inl ⟨rfl,by simp only [bv,hk,cond_false]⟩,?_⟩
   rw [show sR m B n 0=⟨[bf B n 2],[]⟩ by simp only [sR,aX,ar,hk,cond_false,decide_true,decide_eq_true hm,cond_true]]
   simp only [VT.keep,take_succ_cons,take_zero,map_cons,map_nil]
   rw [show (VO.cells [.vec 1 B .none,.val (.int .i64 n),.val (.int .i64 2)])=bf B n 2 from rfl,cl hB]
  ·refine aO (decide_eq_false hm) ?_
   rw [bE (by omega) (by omega)]
   by_cases hl:m≤(aa B n).length
   ·have hk:cJ m (aa B n) 0=true:=by simp only [cJ,decide_true,decide_eq_true hl,decide_eq_true (show 0≤m by omega)];rfl
    have h4:m.toNat≤(aa B n).length:=by omega
    refine aO (decide_eq_false (by omega)) ?_
    rw [bE (by omega) (by omega)]
    have hs:=AJ (x:=.tmp 35) (i:=.tmp 39) (m:=.tmp 45) (l:= [(35,.vec 1 B .none),(39,.val (.int .i64 n)),(45,.val (.int .i64 (n+m)))]) (b:=B) (tok:=.none) (k:=.i64) (k':=.i64) (z:=n) (z':=n+m) rfl rfl rfl h1 (by omega) rfl rfl (by omega)
    have e1:(B.take (n+m).toNat).drop n.toNat=(aa B n).take m.toNat:=by
     rw [show (n+m).toNat=n.toNat+m.toNat by omega,List.drop_take];simp only [aa];congr 1;omega
    rw [e1] at hs
    refine ⟨hs,mJ _ _ ((dy hB n).take _).small 31 46 rfl,.inr ⟨.none,?_⟩,?_⟩
    ·simp only [TV.ren,((dy hB n).take m.toNat).ren,Tok.ren,bv,hk,cond_true];rfl
    ·rw [show sR m B n 0=⟨[bf B (n+m) 0],[]⟩ by simp only [sR,aX,ar,hk,cond_true,decide_true,decide_eq_false hm,decide_eq_true hl,cond_false]]
     simp only [VT.keep,take_succ_cons,take_zero,map_cons,map_nil]
     rw [show (VO.cells [.vec 1 B .none,.val (.int .i64 (n+m)),.val (.int .i64 0)])=bf B (n+m) 0 from rfl,cl hB]
   ·have hk:cJ m (aa B n) 0=false:=by simp only [cJ,and_eq_false_iff,decide_eq_false_iff_not];omega
    refine aU (decide_eq_true (by omega)) ⟨.inl ⟨rfl,by simp only [bv,hk,cond_false]⟩,?_⟩
    rw [show sR m B n 0=⟨[bf B n 3],[]⟩ by simp only [sR,aX,ar,hk,cond_false,decide_true,decide_eq_false hm,decide_eq_false hl,cond_true]]
    simp only [VT.keep,take_succ_cons,take_zero,map_cons,map_nil]
    rw [show (VO.cells [.vec 1 B .none,.val (.int .i64 n),.val (.int .i64 3)])=bf B n 3 from rfl,cl hB]
 ·have hk:cJ m (aa B n) e=false:=by simp only [cJ,and_eq_false_iff,decide_eq_false_iff_not];omega
  refine aU (by rw [cC,decide_eq_false he];rfl) ⟨.inl ⟨rfl,by simp only [bv,hk,cond_false]⟩,?_⟩
  rw [show sR m B n e=⟨[bf B n e],[]⟩ by simp only [sR,aX,ar,hk,cond_false,decide_eq_false he]]
  simp only [VT.keep,take_succ_cons,take_zero,map_cons,map_nil]
  rw [show (VO.cells [.vec 1 B .none,.val (.int .i64 n),.val (.int .i64 e)])=bf B n e from rfl,cl hB]
theorem oZ:∀ro ys T K,xI ro ys T K→VCx prog ah ro iD ys T K:=Sk aP λ_ _ e m hB hn=>PS hB hn e m
theorem JC (c:Bs)(hc:IsB c)(h8:c.length≤8)(K:KX)(hK:K .normal (aJ 45 C6 (qa c (io c) c.length)) ⟨[],[]⟩ []):VWx prog ah none 0 (aA prog mI 0) (aJ 45 C6 (qa c 0 0)) ⟨[],[]⟩ [] K:=by
 let sl:Nat→List TV:=λj=>qa c (io (c.take j)) j
 let Post:Exit→List TV→VT→Prop:=λe vs T=>e=.normal∧vs=sl c.length∧T=⟨[],[]⟩
 refine dW (f:=mI) (id:=0) (by kernel_rfl) 45 C6 (λj=>c.length-j) sl (λ_=>⟨[],[]⟩) (λj=>j≤c.length) 0 0 (λ_ _=>⟨le_refl _,le_refl _⟩)
  Post (λj hj=> ?_) 0 (zero_le _) K (λe vs T ⟨h1,h2,h3⟩=> ?_)
 ·by_cases hlt:j<c.length
  ·have hs:c[j]?=some c[j]:=List.getElem?_eq_getElem hlt
   generalize c[j]=r at hs
   obtain ⟨z,rfl,hz0,hz1⟩:=hc.at hs
   have hw:=Bu j (by omega)
   obtain ⟨hb0,hb1⟩:=Om hc (j:=j) (by omega)
   have hor:=cV hb0 (hb1 (by omega)) hz0 hz1
   refine cg ag ac am ai (FD c (io (c.take j)) z j _) ?_
   refine aU (decide_eq_true (by omega)) ⟨q9 rfl rfl (Int.natCast_nonneg _) (by rw [toNat_natCast];exact hs),rfl,rfl,j+1,hlt,by simp only;omega,.inr ⟨rfl,?_⟩⟩
   rw [hor,hw]
   simp only [aB,TV.ren,hc.ren,Tok.ren]
   simp only [sl,qa,FF hs,hZ,bT]
  ·obtain rfl:j=c.length:=by omega
   refine cg ag ac am ai (FD c (io (c.take c.length)) 0 c.length _) ?_
   exact aO (decide_eq_false (by omega)) ⟨rfl,rfl,rfl,rfl,rfl⟩
 ·subst h1 h2 h3
  simp only [sl,take_length]
  exact hK
theorem Ma (c:Bs)(hc:IsB c)(h8:c.length≤8):dD prog ah (W2 c (io c) (aA prog mI 0)):=bL λp hp=>by
 obtain rfl:=mem_singleton.1 hp
 exact ce λK hK=>JC c hc h8 K hK
theorem PT {b:Bs}(hb:IsB b){n:Int}(hn:jB n):VCx prog ah 0 mI [.vec 1 b .none,.val (.int .i64 0),.val (.int .i64 n)] ⟨[],[]⟩ λx T'=>x=.tup [.val (.int .u64 (fP n b)),.val (.bool (AI n b))]∧T'=⟨[],[]⟩:=by
 obtain ⟨h0,h8⟩:=hn
 have hbs:=hb.small
 refine aj ag ac am (Ma (b.take n.toNat) (hb.take _) (by rw [length_take];omega)) (SX b (b.take n.toNat) n (io (b.take n.toNat)) _) ?_
 rw [bE (by omega) (by omega),bE (by omega) (by omega)]
 unfold fP AI
 by_cases h:n≤b.length
 ·have h1:n.toNat≤b.length:=by omega
  have hs:=AJ (x:=.tmp 27) (i:=.tmp 28) (m:=.tmp 31) (l:= [(27,.vec 1 b .none),(28,.val (.int .i64 0)),(31,.val (.int .i64 (0+n)))]) (b:=b) (tok:=.none) (k:=.i64) (k':=.i64) (z:=0) (z':=0+n) rfl rfl rfl (Int.le_refl _) (by omega) rfl rfl (by omega)
  rw [show (b.take (0+n).toNat).drop (0:Int).toNat=b.take n.toNat by rw [Int.zero_add];rfl] at hs
  refine aO (decide_eq_false (by omega)) ⟨hs,rfl,⟨rfl,rfl,rfl,trivial,rfl,rfl,rfl⟩,?_,rfl⟩
  rw [decide_eq_true h];rfl
 ·refine aU (decide_eq_true (by omega)) ⟨?_,rfl⟩
  rw [decide_eq_false h];rfl
theorem Da:∀ro ys T K,xT ro ys T K→VCx prog ah ro mI ys T K:=by
 intro ro ys T K hw
 unfold xT at hw
 split at hw
 ·rename_i b tok a n
  obtain ⟨⟨hb,_,hn,rfl⟩,hk⟩:=hw
  exact VCx.loosePure aP (PT hb hn) (by simp [cA]) (by simp [aB,TV.ren,hb.ren,Tok.ren]) (λf h=>rfl) hk
 ·exact hw.elim
theorem PU {B:Bs}(hB:IsB B){n:Int}(hn:bq B n)(e:Int){m:Int}(hm:jB m):VCx prog ah 0 wv [.ptr 0 0,.val (.int .i64 m)] ⟨[bf B n e],[]⟩ λx T'=>x=.val (.int .u64 (ji m (aa B n) e))∧T'=sR m B n e:=by
 refine aj ag ac (aQ λp hp=>by rcases mem_cons.1 hp with rfl | hp;exact oZ;obtain rfl:=mem_singleton.1 hp;exact Da) ai (SZ B n e m _) ⟨⟨rfl,hB,hn⟩,⟨eg (dy hB n),(eg (dy hB n)).small,hm,rfl⟩,?_,rfl⟩
 rw [Sf hm.1]
theorem PV:∀ro ys T K,zr ro ys T K→VCx prog ah ro wv ys T K:=by
 intro ro ys T K hw
 unfold zr at hw
 split at hw
 ·rename_i j m
  split at hw
  ·rename_i B n e ho
   obtain ⟨⟨hro,hB,hi,hm⟩,hk⟩:=hw
   refine VCx.at1 (Q:=λx o' l'=>x=.val (.int .u64 (ji m (aa B n) e))∧o'=bf B (aX m B n e) (ar m (aa B n) e)∧l'= []) aP (le_of_ble_eq_true hro) ho rfl (cl hB n e _ _) (ys1:= [.ptr 0 0,.val (.int .i64 m)]) (by simp [aB,TV.ren,bb]) ((PU hB hi e hm).mono λx T' ⟨h1,h2⟩=>⟨_,_,h2,h1,rfl,rfl⟩) ?_
   rintro x o' l' ⟨rfl,rfl,rfl⟩
   rw [cl hB]
   simpa [TV.ren] using hk
  ·exact hw.elim
 ·exact hw.elim
theorem Db {f:FuncId}{kind:IntKind}{m:Nat}(hw:∀z:Int,0≤z→z<256^m→kind.wrap z=z)
  (h:∀(B:Bs) (n e:Int) (Q:TV→VT→Prop),IsB B→bq B n→Q (.val (.int kind (kind.wrap (ji m (aa B n) e)))) (sR m B n e)→VCx prog ah 0 f [.ptr 0 0] ⟨[bf B n e],[]⟩ Q):
  ∀ro ys T K,ml kind m ro ys T K→VCx prog ah ro f ys T K:=Sj aP λB n e hB hn=>by
 obtain ⟨h1,h2⟩:=q8 (n:=m) (dy hB n) e
 exact h B n e _ hB hn ⟨by rw [hw _ h1 h2,qZ],rfl⟩
theorem zv:bk prog ah (aI [(wv,zr)]):=aQ λp hp=>by obtain rfl:=mem_singleton.1 hp;exact PV
theorem re:∀ro ys T K,ml .i64 1 ro ys T K→VCx prog ah ro iE ys T K:=
 Db (λz h0 h1=>by simp only [wrap,IntKind.bits,signed];simp;omega) λB n e _ hB hn hq=>aj ag ac zv ai (S1 B n e _) ⟨⟨rfl,hB,hn,⟨by decide,by decide⟩⟩,hq⟩
theorem vc:∀ro ys T K,ml .i64 2 ro ys T K→VCx prog ah ro lR ys T K:=
 Db (λz h0 h1=>by simp only [wrap,IntKind.bits,signed];simp;omega) λB n e _ hB hn hq=>aj ag ac zv ai (PI B n e _) ⟨⟨rfl,hB,hn,⟨by decide,by decide⟩⟩,hq⟩
theorem PW:∀ro ys T K,ml .u32 4 ro ys T K→VCx prog ah ro xS ys T K:=
 Db (λz h0 h1=>by simp only [wrap,IntKind.bits,signed];simp;omega) λB n e _ hB hn hq=>aj ag ac zv ai (PJ B n e _) ⟨⟨rfl,hB,hn,⟨by decide,by decide⟩⟩,hq⟩
theorem S8:∀ro ys T K,xJ ro ys T K→VCx prog ah ro HV ys T K:=L1 aP λB n e m hB hn=>
 aj ag ac (aQ λp hp=>by rcases mem_cons.1 hp with rfl | hp;exact oZ;obtain rfl:=mem_singleton.1 hp;exact oA) ai (S2 B n e m _) ⟨⟨rfl,hB,hn⟩,⟨eg (dy hB n),(eg (dy hB n)).small⟩,rfl,rfl⟩
theorem o7:∀ro ys T K,ns ro ys T K→VCx prog ah ro j6 ys T K:=Sl aP λB n e hB hn=>by
 have hrl:=C9 hn
 have h3:=hB.small
 obtain ⟨h1,h2,_⟩:=hn
 refine aj ag ac am ai (S3 B n e _) ?_
 rw [bE (by omega) (by omega)]
 by_cases he:e=0
 ·exact aO (by rw [cC,decide_eq_true he];rfl) ⟨by simp only [bo,decide_eq_true he,cond_true,hrl],rfl⟩
 ·exact aU (by rw [cC,decide_eq_false he];rfl) ⟨by simp only [bo,decide_eq_false he,cond_false],rfl⟩
theorem S9:∀ro ys T K,tN ro ys T K→VCx prog ah ro HW ys T K:=Jy aP λB n e hB hn=>
 aj ag ac (aQ λp hp=>by rcases mem_cons.1 hp with rfl | hp;exact o7;obtain rfl:=mem_singleton.1 hp;exact oZ) ai (S4 B n e _) ⟨⟨rfl,hB,hn⟩,⟨rfl,hB,hn⟩,rfl,rfl⟩
def ko (n:Int):Prop:=0≤n∧n≤32
def vN (n:Int):Int:=4294967296-2^(32-n).toNat
def fu (a n:Int):Int:=wrap .u32 (toNat (ofInt (IntKind.bits .u32) a&&&ofInt (IntKind.bits .u32) (vN n)):Nat)
abbrev dw:=157
abbrev si:=140
abbrev lS:=116
abbrev o8:=83
abbrev dx:=164
abbrev sj:=143
abbrev lT:=122
abbrev o9:=95
def FG:be:=λ_ ys T K=>match ys with
 |[.val (.int .i64 n)]=>ko n∧K (.val (.int .u32 (vN n))) T
 |_=>False
def nL:be:=λ_ ys T K=>match ys with
 |[.agg [.val (.int .u32 a),.val (.int .i64 n)]]=>ko n∧K (.agg [.val (.int .u32 (fu a n)),.val (.int .i64 n)]) T
 |_=>False
def AL (l:Bs):be:=λro ys T K=>match ys with
 |[.ptr k 0,.val (.int .i64 n)]=>match T.objs[k]? with
  |some (.cells [.val (.bool true),.vec 1 b .none,.val (.int .i64 a),.val (.int .i64 e)])=>((ble ro k=true∧IsB b)∧bv n b e=l)∧K (.vec 1 l .none) {T with objs:=T.objs.set k (aN (aC n b e) (bN n b e a) (ar n b e))}
  |_=>False
 |_=>False
def AM (l:Bs):be:=λro ys T K=>match ys with
 |[.ptr j 0,.val (.int .i64 m)]=>match T.objs[j]? with
  |some (.cells [.vec 1 B .none,.val (.int .i64 n),.val (.int .i64 e)])=>((ble ro j=true∧IsB B∧bq B n)∧bv m (aa B n) e=l)∧K (.vec 1 l .none) {T with objs:=T.objs.set j (bf B (aX m B n e) (ar m (aa B n) e))}
  |_=>False
 |_=>False
theorem PX (Q:TV→VT→Prop):au prog ah aZ aM 300 aG 0 dw [.val (.int .i64 0)] ap Q=
Q cN ap:=by kernel_rfl
theorem PY (Q:TV→VT→Prop):au prog ah aZ aM 300 aG 0 dw [.val (.int .i64 1)] ap Q=
Q (.val (.int .u32 2147483648)) ap:=by kernel_rfl
theorem PZ (Q:TV→VT→Prop):au prog ah aZ aM 300 aG 0 dw [.val (.int .i64 2)] ap Q=
Q (.val (.int .u32 3221225472)) ap:=by kernel_rfl
theorem P0 (Q:TV→VT→Prop):au prog ah aZ aM 300 aG 0 dw [.val (.int .i64 3)] ap Q=
Q (.val (.int .u32 3758096384)) ap:=by kernel_rfl
theorem P1 (Q:TV→VT→Prop):au prog ah aZ aM 300 aG 0 dw [.val (.int .i64 4)] ap Q=
Q (.val (.int .u32 4026531840)) ap:=by kernel_rfl
theorem P2 (Q:TV→VT→Prop):au prog ah aZ aM 300 aG 0 dw [.val (.int .i64 5)] ap Q=
Q (.val (.int .u32 4160749568)) ap:=by kernel_rfl
theorem P3 (Q:TV→VT→Prop):au prog ah aZ aM 300 aG 0 dw [.val (.int .i64 6)] ap Q=
Q (.val (.int .u32 4227858432)) ap:=by kernel_rfl
theorem P4 (Q:TV→VT→Prop):au prog ah aZ aM 300 aG 0 dw [.val (.int .i64 7)] ap Q=
Q (.val (.int .u32 4261412864)) ap:=by kernel_rfl
theorem P5 (Q:TV→VT→Prop):au prog ah aZ aM 300 aG 0 dw [.val (.int .i64 8)] ap Q=
Q (.val (.int .u32 4278190080)) ap:=by kernel_rfl
theorem P6 (Q:TV→VT→Prop):au prog ah aZ aM 300 aG 0 dw [.val (.int .i64 9)] ap Q=
Q (.val (.int .u32 4286578688)) ap:=by kernel_rfl
theorem Mb (Q:TV→VT→Prop):au prog ah aZ aM 300 aG 0 dw [.val (.int .i64 10)] ap Q=
Q (.val (.int .u32 4290772992)) ap:=by kernel_rfl
theorem Mc (Q:TV→VT→Prop):au prog ah aZ aM 300 aG 0 dw [.val (.int .i64 11)] ap Q=
Q (.val (.int .u32 4292870144)) ap:=by kernel_rfl
theorem Md (Q:TV→VT→Prop):au prog ah aZ aM 300 aG 0 dw [.val (.int .i64 12)] ap Q=
Q (.val (.int .u32 4293918720)) ap:=by kernel_rfl
theorem Me (Q:TV→VT→Prop):au prog ah aZ aM 300 aG 0 dw [.val (.int .i64 13)] ap Q=
Q (.val (.int .u32 4294443008)) ap:=by kernel_rfl
theorem Mf (Q:TV→VT→Prop):au prog ah aZ aM 300 aG 0 dw [.val (.int .i64 14)] ap Q=
Q (.val (.int .u32 4294705152)) ap:=by kernel_rfl
theorem Mg (Q:TV→VT→Prop):au prog ah aZ aM 300 aG 0 dw [.val (.int .i64 15)] ap Q=
Q (.val (.int .u32 4294836224)) ap:=by kernel_rfl
theorem Mh (Q:TV→VT→Prop):au prog ah aZ aM 300 aG 0 dw [.val (.int .i64 16)] ap Q=
Q (.val (.int .u32 4294901760)) ap:=by kernel_rfl
theorem Mi (Q:TV→VT→Prop):au prog ah aZ aM 300 aG 0 dw [.val (.int .i64 17)] ap Q=
Q (.val (.int .u32 4294934528)) ap:=by kernel_rfl
theorem Mj (Q:TV→VT→Prop):au prog ah aZ aM 300 aG 0 dw [.val (.int .i64 18)] ap Q=
Q (.val (.int .u32 4294950912)) ap:=by kernel_rfl
theorem Mk (Q:TV→VT→Prop):au prog ah aZ aM 300 aG 0 dw [.val (.int .i64 19)] ap Q=
Q (.val (.int .u32 4294959104)) ap:=by kernel_rfl
theorem Ml (Q:TV→VT→Prop):au prog ah aZ aM 300 aG 0 dw [.val (.int .i64 20)] ap Q=
Q (.val (.int .u32 4294963200)) ap:=by kernel_rfl
theorem Mm (Q:TV→VT→Prop):au prog ah aZ aM 300 aG 0 dw [.val (.int .i64 21)] ap Q=
Q (.val (.int .u32 4294965248)) ap:=by kernel_rfl
theorem Mn (Q:TV→VT→Prop):au prog ah aZ aM 300 aG 0 dw [.val (.int .i64 22)] ap Q=
Q (.val (.int .u32 4294966272)) ap:=by kernel_rfl
theorem Mo (Q:TV→VT→Prop):au prog ah aZ aM 300 aG 0 dw [.val (.int .i64 23)] ap Q=
Q (.val (.int .u32 4294966784)) ap:=by kernel_rfl
theorem Mp (Q:TV→VT→Prop):au prog ah aZ aM 300 aG 0 dw [.val (.int .i64 24)] ap Q=
Q (.val (.int .u32 4294967040)) ap:=by kernel_rfl
theorem Mq (Q:TV→VT→Prop):au prog ah aZ aM 300 aG 0 dw [.val (.int .i64 25)] ap Q=
Q (.val (.int .u32 4294967168)) ap:=by kernel_rfl
theorem Mr (Q:TV→VT→Prop):au prog ah aZ aM 300 aG 0 dw [.val (.int .i64 26)] ap Q=
Q (.val (.int .u32 4294967232)) ap:=by kernel_rfl
theorem Ms (Q:TV→VT→Prop):au prog ah aZ aM 300 aG 0 dw [.val (.int .i64 27)] ap Q=
Q (.val (.int .u32 4294967264)) ap:=by kernel_rfl
theorem Mt (Q:TV→VT→Prop):au prog ah aZ aM 300 aG 0 dw [.val (.int .i64 28)] ap Q=
Q (.val (.int .u32 4294967280)) ap:=by kernel_rfl
theorem Mu (Q:TV→VT→Prop):au prog ah aZ aM 300 aG 0 dw [.val (.int .i64 29)] ap Q=
Q (.val (.int .u32 4294967288)) ap:=by kernel_rfl
theorem Mv (Q:TV→VT→Prop):au prog ah aZ aM 300 aG 0 dw [.val (.int .i64 30)] ap Q=
Q (.val (.int .u32 4294967292)) ap:=by kernel_rfl
theorem Mw (Q:TV→VT→Prop):au prog ah aZ aM 300 aG 0 dw [.val (.int .i64 31)] ap Q=
Q (.val (.int .u32 4294967294)) ap:=by kernel_rfl
theorem Mx (Q:TV→VT→Prop):au prog ah aZ aM 300 aG 0 dw [.val (.int .i64 32)] ap Q=
Q (.val (.int .u32 4294967295)) ap:=by kernel_rfl
theorem P7 (Q:TV→VT→Prop):au prog ah aZ aM 300 aG 0 dx [.val (.int .i64 0)] ap Q=
Q cN ap:=by kernel_rfl
theorem P8 (Q:TV→VT→Prop):au prog ah aZ aM 300 aG 0 dx [.val (.int .i64 1)] ap Q=
Q (.val (.int .u32 2147483648)) ap:=by kernel_rfl
theorem P9 (Q:TV→VT→Prop):au prog ah aZ aM 300 aG 0 dx [.val (.int .i64 2)] ap Q=
Q (.val (.int .u32 3221225472)) ap:=by kernel_rfl
theorem Qa (Q:TV→VT→Prop):au prog ah aZ aM 300 aG 0 dx [.val (.int .i64 3)] ap Q=
Q (.val (.int .u32 3758096384)) ap:=by kernel_rfl
theorem Qb (Q:TV→VT→Prop):au prog ah aZ aM 300 aG 0 dx [.val (.int .i64 4)] ap Q=
Q (.val (.int .u32 4026531840)) ap:=by kernel_rfl
theorem Qc (Q:TV→VT→Prop):au prog ah aZ aM 300 aG 0 dx [.val (.int .i64 5)] ap Q=
Q (.val (.int .u32 4160749568)) ap:=by kernel_rfl
theorem Qd (Q:TV→VT→Prop):au prog ah aZ aM 300 aG 0 dx [.val (.int .i64 6)] ap Q=
Q (.val (.int .u32 4227858432)) ap:=by kernel_rfl
theorem Qe (Q:TV→VT→Prop):au prog ah aZ aM 300 aG 0 dx [.val (.int .i64 7)] ap Q=
Q (.val (.int .u32 4261412864)) ap:=by kernel_rfl
theorem Qf (Q:TV→VT→Prop):au prog ah aZ aM 300 aG 0 dx [.val (.int .i64 8)] ap Q=
Q (.val (.int .u32 4278190080)) ap:=by kernel_rfl
theorem Qg (Q:TV→VT→Prop):au prog ah aZ aM 300 aG 0 dx [.val (.int .i64 9)] ap Q=
Q (.val (.int .u32 4286578688)) ap:=by kernel_rfl
theorem My (Q:TV→VT→Prop):au prog ah aZ aM 300 aG 0 dx [.val (.int .i64 10)] ap Q=
Q (.val (.int .u32 4290772992)) ap:=by kernel_rfl
theorem Mz (Q:TV→VT→Prop):au prog ah aZ aM 300 aG 0 dx [.val (.int .i64 11)] ap Q=
Q (.val (.int .u32 4292870144)) ap:=by kernel_rfl
theorem MA (Q:TV→VT→Prop):au prog ah aZ aM 300 aG 0 dx [.val (.int .i64 12)] ap Q=
Q (.val (.int .u32 4293918720)) ap:=by kernel_rfl
theorem MB (Q:TV→VT→Prop):au prog ah aZ aM 300 aG 0 dx [.val (.int .i64 13)] ap Q=
Q (.val (.int .u32 4294443008)) ap:=by kernel_rfl
theorem MC (Q:TV→VT→Prop):au prog ah aZ aM 300 aG 0 dx [.val (.int .i64 14)] ap Q=
Q (.val (.int .u32 4294705152)) ap:=by kernel_rfl
theorem MD (Q:TV→VT→Prop):au prog ah aZ aM 300 aG 0 dx [.val (.int .i64 15)] ap Q=
Q (.val (.int .u32 4294836224)) ap:=by kernel_rfl
theorem ME (Q:TV→VT→Prop):au prog ah aZ aM 300 aG 0 dx [.val (.int .i64 16)] ap Q=
Q (.val (.int .u32 4294901760)) ap:=by kernel_rfl
theorem MF (Q:TV→VT→Prop):au prog ah aZ aM 300 aG 0 dx [.val (.int .i64 17)] ap Q=
Q (.val (.int .u32 4294934528)) ap:=by kernel_rfl
theorem MG (Q:TV→VT→Prop):au prog ah aZ aM 300 aG 0 dx [.val (.int .i64 18)] ap Q=
Q (.val (.int .u32 4294950912)) ap:=by kernel_rfl
theorem MH (Q:TV→VT→Prop):au prog ah aZ aM 300 aG 0 dx [.val (.int .i64 19)] ap Q=
Q (.val (.int .u32 4294959104)) ap:=by kernel_rfl
theorem MI (Q:TV→VT→Prop):au prog ah aZ aM 300 aG 0 dx [.val (.int .i64 20)] ap Q=
Q (.val (.int .u32 4294963200)) ap:=by kernel_rfl
theorem MJ (Q:TV→VT→Prop):au prog ah aZ aM 300 aG 0 dx [.val (.int .i64 21)] ap Q=
Q (.val (.int .u32 4294965248)) ap:=by kernel_rfl
theorem MK (Q:TV→VT→Prop):au prog ah aZ aM 300 aG 0 dx [.val (.int .i64 22)] ap Q=
Q (.val (.int .u32 4294966272)) ap:=by kernel_rfl
theorem ML (Q:TV→VT→Prop):au prog ah aZ aM 300 aG 0 dx [.val (.int .i64 23)] ap Q=
Q (.val (.int .u32 4294966784)) ap:=by kernel_rfl
theorem MM (Q:TV→VT→Prop):au prog ah aZ aM 300 aG 0 dx [.val (.int .i64 24)] ap Q=
Q (.val (.int .u32 4294967040)) ap:=by kernel_rfl
theorem MN (Q:TV→VT→Prop):au prog ah aZ aM 300 aG 0 dx [.val (.int .i64 25)] ap Q=
Q (.val (.int .u32 4294967168)) ap:=by kernel_rfl
theorem MO (Q:TV→VT→Prop):au prog ah aZ aM 300 aG 0 dx [.val (.int .i64 26)] ap Q=
Q (.val (.int .u32 4294967232)) ap:=by kernel_rfl
theorem MP (Q:TV→VT→Prop):au prog ah aZ aM 300 aG 0 dx [.val (.int .i64 27)] ap Q=
Q (.val (.int .u32 4294967264)) ap:=by kernel_rfl
theorem MQ (Q:TV→VT→Prop):au prog ah aZ aM 300 aG 0 dx [.val (.int .i64 28)] ap Q=
Q (.val (.int .u32 4294967280)) ap:=by kernel_rfl
theorem MR (Q:TV→VT→Prop):au prog ah aZ aM 300 aG 0 dx [.val (.int .i64 29)] ap Q=
Q (.val (.int .u32 4294967288)) ap:=by kernel_rfl
theorem MS (Q:TV→VT→Prop):au prog ah aZ aM 300 aG 0 dx [.val (.int .i64 30)] ap Q=
Q (.val (.int .u32 4294967292)) ap:=by kernel_rfl
theorem MT (Q:TV→VT→Prop):au prog ah aZ aM 300 aG 0 dx [.val (.int .i64 31)] ap Q=
Q (.val (.int .u32 4294967294)) ap:=by kernel_rfl
theorem MU (Q:TV→VT→Prop):au prog ah aZ aM 300 aG 0 dx [.val (.int .i64 32)] ap Q=
Q (.val (.int .u32 4294967295)) ap:=by kernel_rfl
theorem Ta (a n:Int)(Q:TV→VT→Prop):au prog ah (aI [(dw,FG)]) (bc [(999999,.dead,none)]) 300 aG 0 si [.agg [.val (.int .u32 a),.val (.int .i64 n)]] ap Q=
 (ko (if (32:Int)<if (0:Int)>n then (0:Int) else n then (32:Int) else if (0:Int)>n then (0:Int) else n)∧
 Q (HQ (wrap u32 (↑(toNat (ofInt (IntKind.bits u32) a&&&ofInt (IntKind.bits u32) (vN (if (32:Int)<if (0:Int)>n then (0:Int) else n then (32:Int) else if (0:Int)>n then (0:Int) else n)))):Int)) (if (32:Int)<if (0:Int)>n then (0:Int) else n then (32:Int) else if (0:Int)>n then (0:Int) else n)) ⟨[(eY a n),(eY (wrap u32 (↑(toNat (ofInt (IntKind.bits u32) a&&&ofInt (IntKind.bits u32) (vN (if (32:Int)<if (0:Int)>n then (0:Int) else n then (32:Int) else if (0:Int)>n then (0:Int) else n)))):Int)) (if (32:Int)<if (0:Int)>n then (0:Int) else n then (32:Int) else if (0:Int)>n then (0:Int) else n))],[]⟩):=by kernel_rfl
abbrev MV (a:Int):TV:=(cc (wrap u32 (↑(toNat (ofInt (IntKind.bits u32) a&&&ofInt (IntKind.bits u32) (vN (32:Int)))):Int)))
abbrev MW (a:Int):TV:=(cc (wrap u32 (↑(toNat (ofInt (IntKind.bits u32) a&&&ofInt (IntKind.bits u32) (vN (0:Int)))):Int)))
abbrev Tb (a:Int)(n:Int):VO:=(eY (wrap u32 (↑(toNat (ofInt (IntKind.bits u32) a&&&ofInt (IntKind.bits u32) (vN n))):Int)) n)
theorem Tc (a n:Int)(Q:TV→VT→Prop):au prog ah (aI [(dx,FG)]) (bc [(999999,.dead,none)]) 300 aG 0 sj [.agg [.val (.int .u32 a),.val (.int .i64 n)]] ap Q=
 (bif decide (n<(0:Int))
 then (ko 0∧
 Q (.agg [(MW a),aE]) ⟨[(.cells [(MW a),aE]),(.cells [(MW a),aE])],[]⟩)
 else (bif decide (n>(32:Int))
 then (ko 32∧
 Q (.agg [(MV a),(.val (.int .i64 32))]) ⟨[(.cells [(MV a),(.val (.int .i64 32))]),(.cells [(MV a),(.val (.int .i64 32))])],[]⟩)
 else (ko (n)∧
 Q (HQ (wrap u32 (↑(toNat (ofInt (IntKind.bits u32) a&&&ofInt (IntKind.bits u32) (vN n))):Int)) n) ⟨[(Tb a n),(Tb a n)],[]⟩))):=by kernel_rfl
abbrev kV (b:Bs)(e:Int)(a:Int):TV:=(ae (bN (wrap i64 (tdiv (wrap i64 (wrap i64 (aw (1:Nat) b e+(8:Int))-(1:Int))) (8:Int))) (aC (↑(1:Nat):Int) b e) (ar (↑(1:Nat):Int) b e) (bN (↑(1:Nat):Int) b e a)))
abbrev kW (b:Bs)(e:Int):TV:=(an (aC (wrap i64 (tdiv (wrap i64 (wrap i64 (aw (1:Nat) b e+(8:Int))-(1:Int))) (8:Int))) (aC (↑(1:Nat):Int) b e) (ar (↑(1:Nat):Int) b e)))
abbrev kX (b:Bs)(e:Int):TV:=(ae (ar (wrap i64 (tdiv (wrap i64 (wrap i64 (aw (1:Nat) b e+(8:Int))-(1:Int))) (8:Int))) (aC (↑(1:Nat):Int) b e) (ar (↑(1:Nat):Int) b e)))
theorem Qh (b:Bs)(a e:Int)(Q:TV→VT→Prop):au prog ah (aI [(jb,mi .i64 1),(jD,mj),(j5,AL []),(si,nL)]) aM 300 aG 0 lS [.ptr 0 0] (bC (aN b a e)) Q=
 (((@Eq (Bool) true true)∧
 IsB (b))∧
 (((@Eq (Bool) true true)∧
 IsB (aC (↑(1:Nat):Int) b e))∧
 (bif aq neq (k6 (ar (↑(1:Nat):Int) b e) (0:Int))
 then Q dr ⟨[(.cells [aF,(an (aC (↑(1:Nat):Int) b e)),(ae (bN (↑(1:Nat):Int) b e a)),(ae (ar (↑(1:Nat):Int) b e))]),dq],[]⟩
 else (bif decide (aw (1:Nat) b e>(32:Int))
 then Q dr ⟨[(.cells [aF,(an (aC (↑(1:Nat):Int) b e)),(ae (bN (↑(1:Nat):Int) b e a)),(ae (ar (↑(1:Nat):Int) b e))]),dq],[]⟩
 else ((((@Eq (Bool) true true)∧
 IsB (aC (↑(1:Nat):Int) b e))∧
 (@Eq (Bs) (bv (wrap i64 (tdiv (wrap i64 (wrap i64 (aw (1:Nat) b e+(8:Int))-(1:Int))) (8:Int))) (aC (↑(1:Nat):Int) b e) (ar (↑(1:Nat):Int) b e)) []))∧
 (((@Eq (Bool) true true)∧
 IsB (aC (wrap i64 (tdiv (wrap i64 (wrap i64 (aw (1:Nat) b e+(8:Int))-(1:Int))) (8:Int))) (aC (↑(1:Nat):Int) b e) (ar (↑(1:Nat):Int) b e)))∧
 (bif aq neq (k6 (ar (wrap i64 (tdiv (wrap i64 (wrap i64 (aw (1:Nat) b e+(8:Int))-(1:Int))) (8:Int))) (aC (↑(1:Nat):Int) b e) (ar (↑(1:Nat):Int) b e)) (0:Int))
 then Q dr ⟨[(.cells [aF,(kW b e),(kV b e a),(kX b e)]),dq,Ol],[]⟩
 else (ko (aw (1:Nat) b e)∧
 Q (nd (fu
  (wrap u32
   (wrap u64
    (↑(toNat
      (ofInt (IntKind.bits u64)
        (wrap u64
         (wrap u64
           (↑(toNat
             (ofInt (IntKind.bits u64)
               (wrap u64
                (wrap u64
                  (↑(toNat
                    (ofInt (IntKind.bits u64)
                      (wrap u64
                       (wrap u64 (↑(toNat (ofInt (IntKind.bits u64) (wrap u64 ((0:Int)*(2:Int)^min (Int.toNat (8:Int)) (IntKind.bits u64))) ||| ofInt (IntKind.bits u64) (wrap u64 (0:Int)))):Int)*
                        (2:Int)^min (Int.toNat (8:Int)) (IntKind.bits u64))) |||
                     ofInt (IntKind.bits u64) (wrap u64 (0:Int)))):
                   Int)*
                 (2:Int)^min (Int.toNat (8:Int)) (IntKind.bits u64))) |||
              ofInt (IntKind.bits u64) (wrap u64 (0:Int)))):
            Int)*
          (2:Int)^min (Int.toNat (8:Int)) (IntKind.bits u64))) |||
       ofInt (IntKind.bits u64) (wrap u64 (0:Int)))):
     Int)))
  (aw (1:Nat) b e)) (aw (1:Nat) b e)) ⟨[(.cells [aF,(kW b e),(kV b e a),(kX b e)]),(eY (fu
  (wrap u32
   (wrap u64
    (↑(toNat
      (ofInt (IntKind.bits u64)
        (wrap u64
         (wrap u64
           (↑(toNat
             (ofInt (IntKind.bits u64)
               (wrap u64
                (wrap u64
                  (↑(toNat
                    (ofInt (IntKind.bits u64)
                      (wrap u64
                       (wrap u64 (↑(toNat (ofInt (IntKind.bits u64) (wrap u64 ((0:Int)*(2:Int)^min (Int.toNat (8:Int)) (IntKind.bits u64))) ||| ofInt (IntKind.bits u64) (wrap u64 (0:Int)))):Int)*
                        (2:Int)^min (Int.toNat (8:Int)) (IntKind.bits u64))) |||
                     ofInt (IntKind.bits u64) (wrap u64 (0:Int)))):
                   Int)*
                 (2:Int)^min (Int.toNat (8:Int)) (IntKind.bits u64))) |||
              ofInt (IntKind.bits u64) (wrap u64 (0:Int)))):
            Int)*
          (2:Int)^min (Int.toNat (8:Int)) (IntKind.bits u64))) |||
       ofInt (IntKind.bits u64) (wrap u64 (0:Int)))):
     Int)))
  (aw (1:Nat) b e)) (aw (1:Nat) b e)),Ol],[]⟩)))))))):=by kernel_rfl
abbrev kY (B:Bs)(n:Int)(e:Int):TV:=(ae (ar (wrap i64 (tdiv (wrap i64 (aw (1:Nat) (aa B n) e+(7:Int))) (8:Int))) (aa B (aX (↑(1:Nat):Int) B n e)) (ar (↑(1:Nat):Int) (aa B n) e)))
abbrev kZ (B:Bs)(n:Int)(e:Int):TV:=(ae (aX (wrap i64 (tdiv (wrap i64 (aw (1:Nat) (aa B n) e+(7:Int))) (8:Int))) B (aX (↑(1:Nat):Int) B n e) (ar (↑(1:Nat):Int) (aa B n) e)))
theorem Qi (B:Bs)(n e:Int)(Q:TV→VT→Prop):au prog ah (aI [(iE,ml .i64 1),(iD,AM []),(sj,nL)]) aM 300 aG 0 lT [.ptr 0 0] (bC (bf B n e)) Q=
 (((@Eq (Bool) true true)∧
 (IsB (B)∧
 bq (B) (n)))∧
 (bif aq neq (k6 (ar (↑(1:Nat):Int) (aa B n) e) (0:Int))
 then Q dr ⟨[(.cells [(an B),(ae (aX (↑(1:Nat):Int) B n e)),(ae (ar (↑(1:Nat):Int) (aa B n) e))]),dq],[]⟩
 else (bif decide (aw (1:Nat) (aa B n) e>(32:Int))
 then Q dr ⟨[(.cells [(an B),(ae (aX (↑(1:Nat):Int) B n e)),(ae (ar (↑(1:Nat):Int) (aa B n) e))]),dq],[]⟩
 else ((((@Eq (Bool) true true)∧
 (IsB (B)∧
 bq (B) (aX (↑(1:Nat):Int) B n e)))∧
 (@Eq (Bs) (bv (wrap i64 (tdiv (wrap i64 (aw (1:Nat) (aa B n) e+(7:Int))) (8:Int))) (aa B (aX (↑(1:Nat):Int) B n e)) (ar (↑(1:Nat):Int) (aa B n) e)) []))∧
 (bif aq neq (k6 (ar (wrap i64 (tdiv (wrap i64 (aw (1:Nat) (aa B n) e+(7:Int))) (8:Int))) (aa B (aX (↑(1:Nat):Int) B n e)) (ar (↑(1:Nat):Int) (aa B n) e)) (0:Int))
 then Q dr ⟨[(.cells [(an B),(kZ B n e),(kY B n e)]),dq,(.cells [cN,(ae (aw (1:Nat) (aa B n) e))])],[]⟩
 else (ko (aw (1:Nat) (aa B n) e)∧
 Q (nd (fu (0:Int) (aw (1:Nat) (aa B n) e)) (aw (1:Nat) (aa B n) e)) ⟨[(.cells [(an B),(kZ B n e),(kY B n e)]),(eY (fu (0:Int) (aw (1:Nat) (aa B n) e)) (aw (1:Nat) (aa B n) e)),(.cells [cN,(ae (aw (1:Nat) (aa B n) e))])],[]⟩)))))):=by kernel_rfl
theorem Qj (b:Bs)(a e:Int)(z0:Int)(Q:TV→VT→Prop):au prog ah (aI [(jb,mi .i64 1),(jD,mj),(j5,AL [bT z0]),(si,nL)]) aM 300 aG 0 lS [.ptr 0 0] (bC (aN b a e)) Q=
 (((@Eq (Bool) true true)∧
 IsB (b))∧
 (((@Eq (Bool) true true)∧
 IsB (aC (↑(1:Nat):Int) b e))∧
 (bif aq neq (k6 (ar (↑(1:Nat):Int) b e) (0:Int))
 then Q dr ⟨[(.cells [aF,(an (aC (↑(1:Nat):Int) b e)),(ae (bN (↑(1:Nat):Int) b e a)),(ae (ar (↑(1:Nat):Int) b e))]),dq],[]⟩
 else (bif decide (aw (1:Nat) b e>(32:Int))
 then Q dr ⟨[(.cells [aF,(an (aC (↑(1:Nat):Int) b e)),(ae (bN (↑(1:Nat):Int) b e a)),(ae (ar (↑(1:Nat):Int) b e))]),dq],[]⟩
 else ((((@Eq (Bool) true true)∧
 IsB (aC (↑(1:Nat):Int) b e))∧
 (@Eq (Bs) (bv (wrap i64 (tdiv (wrap i64 (wrap i64 (aw (1:Nat) b e+(8:Int))-(1:Int))) (8:Int))) (aC (↑(1:Nat):Int) b e) (ar (↑(1:Nat):Int) b e)) [(dm z0)]))∧
 (((@Eq (Bool) true true)∧
 IsB (aC (wrap i64 (tdiv (wrap i64 (wrap i64 (aw (1:Nat) b e+(8:Int))-(1:Int))) (8:Int))) (aC (↑(1:Nat):Int) b e) (ar (↑(1:Nat):Int) b e)))∧
 (bif aq neq (k6 (ar (wrap i64 (tdiv (wrap i64 (wrap i64 (aw (1:Nat) b e+(8:Int))-(1:Int))) (8:Int))) (aC (↑(1:Nat):Int) b e) (ar (↑(1:Nat):Int) b e)) (0:Int))
 then Q dr ⟨[(.cells [aF,(kW b e),(kV b e a),(kX b e)]),dq,(Oj z0)],[]⟩
 else (ko (aw (1:Nat) b e)∧
 Q (nd (fu
  (wrap u32
   (wrap u64
    (↑(toNat
      (ofInt (IntKind.bits u64)
        (wrap u64
         (wrap u64
           (↑(toNat
             (ofInt (IntKind.bits u64)
               (wrap u64
                (wrap u64
                  (↑(toNat
                    (ofInt (IntKind.bits u64)
                      (wrap u64
                       (wrap u64 (↑(toNat (ofInt (IntKind.bits u64) (wrap u64 ((0:Int)*(2:Int)^min (Int.toNat (8:Int)) (IntKind.bits u64))) ||| ofInt (IntKind.bits u64) (wrap u64 z0))):Int)*(2:Int)^min (Int.toNat (8:Int)) (IntKind.bits u64))) |||
                     ofInt (IntKind.bits u64) (wrap u64 (0:Int)))):
                   Int)*
                 (2:Int)^min (Int.toNat (8:Int)) (IntKind.bits u64))) |||
              ofInt (IntKind.bits u64) (wrap u64 (0:Int)))):
            Int)*
          (2:Int)^min (Int.toNat (8:Int)) (IntKind.bits u64))) |||
       ofInt (IntKind.bits u64) (wrap u64 (0:Int)))):
     Int)))
  (aw (1:Nat) b e)) (aw (1:Nat) b e)) ⟨[(.cells [aF,(kW b e),(kV b e a),(kX b e)]),(eY (fu
  (wrap u32
   (wrap u64
    (↑(toNat
      (ofInt (IntKind.bits u64)
        (wrap u64
         (wrap u64
           (↑(toNat
             (ofInt (IntKind.bits u64)
               (wrap u64
                (wrap u64
                  (↑(toNat
                    (ofInt (IntKind.bits u64)
                      (wrap u64
                       (wrap u64 (↑(toNat (ofInt (IntKind.bits u64) (wrap u64 ((0:Int)*(2:Int)^min (Int.toNat (8:Int)) (IntKind.bits u64))) ||| ofInt (IntKind.bits u64) (wrap u64 z0))):Int)*(2:Int)^min (Int.toNat (8:Int)) (IntKind.bits u64))) |||
                     ofInt (IntKind.bits u64) (wrap u64 (0:Int)))):
                   Int)*
                 (2:Int)^min (Int.toNat (8:Int)) (IntKind.bits u64))) |||
              ofInt (IntKind.bits u64) (wrap u64 (0:Int)))):
            Int)*
          (2:Int)^min (Int.toNat (8:Int)) (IntKind.bits u64))) |||
       ofInt (IntKind.bits u64) (wrap u64 (0:Int)))):
     Int)))
  (aw (1:Nat) b e)) (aw (1:Nat) b e)),(Oj z0)],[]⟩)))))))):=by kernel_rfl
abbrev MX (z0:Int)(B:Bs)(n:Int)(e:Int):VO:=(eY (wrap u32 (↑(toNat (ofInt (IntKind.bits u32) (0:Int) ||| ofInt (IntKind.bits u32) (wrap u32 (wrap u32 z0*(2:Int)^min (Int.toNat (wrap u64 (wrap i64 ((24:Int)-wrap i64 ((8:Int)*(0:Int)))))) (IntKind.bits u32))))):Int)) (aw (1:Nat) (aa B n) e))
theorem Qk (B:Bs)(n e:Int)(z0:Int)(Q:TV→VT→Prop):au prog ah (aI [(iE,ml .i64 1),(iD,AM [bT z0]),(sj,nL)]) aM 300 aG 0 lT [.ptr 0 0] (bC (bf B n e)) Q=
 (((@Eq (Bool) true true)∧
 (IsB (B)∧
 bq (B) (n)))∧
 (bif aq neq (k6 (ar (↑(1:Nat):Int) (aa B n) e) (0:Int))
 then Q dr ⟨[(.cells [(an B),(ae (aX (↑(1:Nat):Int) B n e)),(ae (ar (↑(1:Nat):Int) (aa B n) e))]),dq],[]⟩
 else (bif decide (aw (1:Nat) (aa B n) e>(32:Int))
 then Q dr ⟨[(.cells [(an B),(ae (aX (↑(1:Nat):Int) B n e)),(ae (ar (↑(1:Nat):Int) (aa B n) e))]),dq],[]⟩
 else ((((@Eq (Bool) true true)∧
 (IsB (B)∧
 bq (B) (aX (↑(1:Nat):Int) B n e)))∧
 (@Eq (Bs) (bv (wrap i64 (tdiv (wrap i64 (aw (1:Nat) (aa B n) e+(7:Int))) (8:Int))) (aa B (aX (↑(1:Nat):Int) B n e)) (ar (↑(1:Nat):Int) (aa B n) e)) [(dm z0)]))∧
 (bif aq neq (k6 (ar (wrap i64 (tdiv (wrap i64 (aw (1:Nat) (aa B n) e+(7:Int))) (8:Int))) (aa B (aX (↑(1:Nat):Int) B n e)) (ar (↑(1:Nat):Int) (aa B n) e)) (0:Int))
 then Q dr ⟨[(.cells [(an B),(kZ B n e),(kY B n e)]),dq,(MX z0 B n e)],[]⟩
 else (ko (aw (1:Nat) (aa B n) e)∧
 Q (nd (fu (wrap u32 (↑(toNat (ofInt (IntKind.bits u32) (0:Int) ||| ofInt (IntKind.bits u32) (wrap u32 (wrap u32 z0*(2:Int)^min (Int.toNat (wrap u64 (wrap i64 ((24:Int)-wrap i64 ((8:Int)*(0:Int)))))) (IntKind.bits u32))))):Int))
  (aw (1:Nat) (aa B n) e)) (aw (1:Nat) (aa B n) e)) ⟨[(.cells [(an B),(kZ B n e),(kY B n e)]),(eY (fu (wrap u32 (↑(toNat (ofInt (IntKind.bits u32) (0:Int) ||| ofInt (IntKind.bits u32) (wrap u32 (wrap u32 z0*(2:Int)^min (Int.toNat (wrap u64 (wrap i64 ((24:Int)-wrap i64 ((8:Int)*(0:Int)))))) (IntKind.bits u32))))):Int))
  (aw (1:Nat) (aa B n) e)) (aw (1:Nat) (aa B n) e)),(MX z0 B n e)],[]⟩)))))):=by kernel_rfl
theorem Ql (b:Bs)(a e:Int)(z0 z1:Int)(Q:TV→VT→Prop):au prog ah (aI [(jb,mi .i64 1),(jD,mj),(j5,AL [bT z0,bT z1]),(si,nL)]) aM 300 aG 0 lS [.ptr 0 0] (bC (aN b a e)) Q=
 (((@Eq (Bool) true true)∧
 IsB (b))∧
 (((@Eq (Bool) true true)∧
 IsB (aC (↑(1:Nat):Int) b e))∧
 (bif aq neq (k6 (ar (↑(1:Nat):Int) b e) (0:Int))
 then Q dr ⟨[(.cells [aF,(an (aC (↑(1:Nat):Int) b e)),(ae (bN (↑(1:Nat):Int) b e a)),(ae (ar (↑(1:Nat):Int) b e))]),dq],[]⟩
 else (bif decide (aw (1:Nat) b e>(32:Int))
 then Q dr ⟨[(.cells [aF,(an (aC (↑(1:Nat):Int) b e)),(ae (bN (↑(1:Nat):Int) b e a)),(ae (ar (↑(1:Nat):Int) b e))]),dq],[]⟩
 else ((((@Eq (Bool) true true)∧
 IsB (aC (↑(1:Nat):Int) b e))∧
 (@Eq (Bs) (bv (wrap i64 (tdiv (wrap i64 (wrap i64 (aw (1:Nat) b e+(8:Int))-(1:Int))) (8:Int))) (aC (↑(1:Nat):Int) b e) (ar (↑(1:Nat):Int) b e)) [(dm z0),(dm z1)]))∧
 (((@Eq (Bool) true true)∧
 IsB (aC (wrap i64 (tdiv (wrap i64 (wrap i64 (aw (1:Nat) b e+(8:Int))-(1:Int))) (8:Int))) (aC (↑(1:Nat):Int) b e) (ar (↑(1:Nat):Int) b e)))∧
 (bif aq neq (k6 (ar (wrap i64 (tdiv (wrap i64 (wrap i64 (aw (1:Nat) b e+(8:Int))-(1:Int))) (8:Int))) (aC (↑(1:Nat):Int) b e) (ar (↑(1:Nat):Int) b e)) (0:Int))
 then Q dr ⟨[(.cells [aF,(kW b e),(kV b e a),(kX b e)]),dq,(.cells [(bG z0),(bG z1),jS,jS])],[]⟩
 else (ko (aw (1:Nat) b e)∧
 Q (nd (fu
  (wrap u32
   (wrap u64
    (↑(toNat
      (ofInt (IntKind.bits u64)
        (wrap u64
         (wrap u64
           (↑(toNat
             (ofInt (IntKind.bits u64)
               (wrap u64
                (wrap u64
                  (↑(toNat
                    (ofInt (IntKind.bits u64)
                      (wrap u64
                       (wrap u64 (↑(toNat (ofInt (IntKind.bits u64) (wrap u64 ((0:Int)*(2:Int)^min (Int.toNat (8:Int)) (IntKind.bits u64))) ||| ofInt (IntKind.bits u64) (wrap u64 z0))):Int)*(2:Int)^min (Int.toNat (8:Int)) (IntKind.bits u64))) |||
                     ofInt (IntKind.bits u64) (wrap u64 z1))):
                   Int)*
                 (2:Int)^min (Int.toNat (8:Int)) (IntKind.bits u64))) |||
              ofInt (IntKind.bits u64) (wrap u64 (0:Int)))):
            Int)*
          (2:Int)^min (Int.toNat (8:Int)) (IntKind.bits u64))) |||
       ofInt (IntKind.bits u64) (wrap u64 (0:Int)))):
     Int)))
  (aw (1:Nat) b e)) (aw (1:Nat) b e)) ⟨[(.cells [aF,(kW b e),(kV b e a),(kX b e)]),(eY (fu
  (wrap u32
   (wrap u64
    (↑(toNat
      (ofInt (IntKind.bits u64)
        (wrap u64
         (wrap u64
           (↑(toNat
             (ofInt (IntKind.bits u64)
               (wrap u64
                (wrap u64
                  (↑(toNat
                    (ofInt (IntKind.bits u64)
                      (wrap u64
                       (wrap u64 (↑(toNat (ofInt (IntKind.bits u64) (wrap u64 ((0:Int)*(2:Int)^min (Int.toNat (8:Int)) (IntKind.bits u64))) ||| ofInt (IntKind.bits u64) (wrap u64 z0))):Int)*(2:Int)^min (Int.toNat (8:Int)) (IntKind.bits u64))) |||
                     ofInt (IntKind.bits u64) (wrap u64 z1))):
                   Int)*
                 (2:Int)^min (Int.toNat (8:Int)) (IntKind.bits u64))) |||
              ofInt (IntKind.bits u64) (wrap u64 (0:Int)))):
            Int)*
          (2:Int)^min (Int.toNat (8:Int)) (IntKind.bits u64))) |||
       ofInt (IntKind.bits u64) (wrap u64 (0:Int)))):
     Int)))
  (aw (1:Nat) b e)) (aw (1:Nat) b e)),(.cells [(bG z0),(bG z1),jS,jS])],[]⟩)))))))):=by kernel_rfl
abbrev MY (z0:Int)(z1:Int)(B:Bs)(n:Int)(e:Int):VO:=(eY (wrap u32
 (↑(toNat
   (ofInt (IntKind.bits u32)
     (wrap u32 (↑(toNat (ofInt (IntKind.bits u32) (0:Int) ||| ofInt (IntKind.bits u32) (wrap u32 (wrap u32 z0*(2:Int)^min (Int.toNat (wrap u64 (wrap i64 ((24:Int)-wrap i64 ((8:Int)*(0:Int)))))) (IntKind.bits u32))))):Int)) |||
    ofInt (IntKind.bits u32) (wrap u32 (wrap u32 z1*(2:Int)^min (Int.toNat (wrap u64 (wrap i64 ((24:Int)-wrap i64 ((8:Int)*wrap i64 ((0:Int)+(1:Int))))))) (IntKind.bits u32))))):
  Int)) (aw (1:Nat) (aa B n) e))
theorem Qm (B:Bs)(n e:Int)(z0 z1:Int)(Q:TV→VT→Prop):au prog ah (aI [(iE,ml .i64 1),(iD,AM [bT z0,bT z1]),(sj,nL)]) aM 300 aG 0 lT [.ptr 0 0] (bC (bf B n e)) Q=
 (((@Eq (Bool) true true)∧
 (IsB (B)∧
 bq (B) (n)))∧
 (bif aq neq (k6 (ar (↑(1:Nat):Int) (aa B n) e) (0:Int))
 then Q dr ⟨[(.cells [(an B),(ae (aX (↑(1:Nat):Int) B n e)),(ae (ar (↑(1:Nat):Int) (aa B n) e))]),dq],[]⟩
 else (bif decide (aw (1:Nat) (aa B n) e>(32:Int))
 then Q dr ⟨[(.cells [(an B),(ae (aX (↑(1:Nat):Int) B n e)),(ae (ar (↑(1:Nat):Int) (aa B n) e))]),dq],[]⟩
 else ((((@Eq (Bool) true true)∧
 (IsB (B)∧
 bq (B) (aX (↑(1:Nat):Int) B n e)))∧
 (@Eq (Bs) (bv (wrap i64 (tdiv (wrap i64 (aw (1:Nat) (aa B n) e+(7:Int))) (8:Int))) (aa B (aX (↑(1:Nat):Int) B n e)) (ar (↑(1:Nat):Int) (aa B n) e)) [(dm z0),(dm z1)]))∧
 (bif aq neq (k6 (ar (wrap i64 (tdiv (wrap i64 (aw (1:Nat) (aa B n) e+(7:Int))) (8:Int))) (aa B (aX (↑(1:Nat):Int) B n e)) (ar (↑(1:Nat):Int) (aa B n) e)) (0:Int))
 then Q dr ⟨[(.cells [(an B),(kZ B n e),(kY B n e)]),dq,(MY z0 z1 B n e)],[]⟩
 else (ko (aw (1:Nat) (aa B n) e)∧
 Q (nd (fu
  (wrap u32
   (↑(toNat
     (ofInt (IntKind.bits u32)
       (wrap u32 (↑(toNat (ofInt (IntKind.bits u32) (0:Int) ||| ofInt (IntKind.bits u32) (wrap u32 (wrap u32 z0*(2:Int)^min (Int.toNat (wrap u64 (wrap i64 ((24:Int)-wrap i64 ((8:Int)*(0:Int)))))) (IntKind.bits u32))))):Int)) |||
      ofInt (IntKind.bits u32) (wrap u32 (wrap u32 z1*(2:Int)^min (Int.toNat (wrap u64 (wrap i64 ((24:Int)-wrap i64 ((8:Int)*wrap i64 ((0:Int)+(1:Int))))))) (IntKind.bits u32))))):
    Int))
  (aw (1:Nat) (aa B n) e)) (aw (1:Nat) (aa B n) e)) ⟨[(.cells [(an B),(kZ B n e),(kY B n e)]),(eY (fu
  (wrap u32
   (↑(toNat
     (ofInt (IntKind.bits u32)
       (wrap u32 (↑(toNat (ofInt (IntKind.bits u32) (0:Int) ||| ofInt (IntKind.bits u32) (wrap u32 (wrap u32 z0*(2:Int)^min (Int.toNat (wrap u64 (wrap i64 ((24:Int)-wrap i64 ((8:Int)*(0:Int)))))) (IntKind.bits u32))))):Int)) |||
      ofInt (IntKind.bits u32) (wrap u32 (wrap u32 z1*(2:Int)^min (Int.toNat (wrap u64 (wrap i64 ((24:Int)-wrap i64 ((8:Int)*wrap i64 ((0:Int)+(1:Int))))))) (IntKind.bits u32))))):
    Int))
  (aw (1:Nat) (aa B n) e)) (aw (1:Nat) (aa B n) e)),(MY z0 z1 B n e)],[]⟩)))))):=by kernel_rfl
theorem Qn (b:Bs)(a e:Int)(z0 z1 z2:Int)(Q:TV→VT→Prop):au prog ah (aI [(jb,mi .i64 1),(jD,mj),(j5,AL [bT z0,bT z1,bT z2]),(si,nL)]) aM 300 aG 0 lS [.ptr 0 0] (bC (aN b a e)) Q=
 (((@Eq (Bool) true true)∧
 IsB (b))∧
 (((@Eq (Bool) true true)∧
 IsB (aC (↑(1:Nat):Int) b e))∧
 (bif aq neq (k6 (ar (↑(1:Nat):Int) b e) (0:Int))
 then Q dr ⟨[(.cells [aF,(an (aC (↑(1:Nat):Int) b e)),(ae (bN (↑(1:Nat):Int) b e a)),(ae (ar (↑(1:Nat):Int) b e))]),dq],[]⟩
 else (bif decide (aw (1:Nat) b e>(32:Int))
 then Q dr ⟨[(.cells [aF,(an (aC (↑(1:Nat):Int) b e)),(ae (bN (↑(1:Nat):Int) b e a)),(ae (ar (↑(1:Nat):Int) b e))]),dq],[]⟩
 else ((((@Eq (Bool) true true)∧
 IsB (aC (↑(1:Nat):Int) b e))∧
 (@Eq (Bs) (bv (wrap i64 (tdiv (wrap i64 (wrap i64 (aw (1:Nat) b e+(8:Int))-(1:Int))) (8:Int))) (aC (↑(1:Nat):Int) b e) (ar (↑(1:Nat):Int) b e)) [(dm z0),(dm z1),(dm z2)]))∧
 (((@Eq (Bool) true true)∧
 IsB (aC (wrap i64 (tdiv (wrap i64 (wrap i64 (aw (1:Nat) b e+(8:Int))-(1:Int))) (8:Int))) (aC (↑(1:Nat):Int) b e) (ar (↑(1:Nat):Int) b e)))∧
 (bif aq neq (k6 (ar (wrap i64 (tdiv (wrap i64 (wrap i64 (aw (1:Nat) b e+(8:Int))-(1:Int))) (8:Int))) (aC (↑(1:Nat):Int) b e) (ar (↑(1:Nat):Int) b e)) (0:Int))
 then Q dr ⟨[(.cells [aF,(kW b e),(kV b e a),(kX b e)]),dq,(.cells [(bG z0),(bG z1),(bG z2),jS])],[]⟩
 else (ko (aw (1:Nat) b e)∧
 Q (nd (fu
  (wrap u32
   (wrap u64
    (↑(toNat
      (ofInt (IntKind.bits u64)
        (wrap u64
         (wrap u64
           (↑(toNat
             (ofInt (IntKind.bits u64)
               (wrap u64
                (wrap u64
                  (↑(toNat
                    (ofInt (IntKind.bits u64)
                      (wrap u64
                       (wrap u64 (↑(toNat (ofInt (IntKind.bits u64) (wrap u64 ((0:Int)*(2:Int)^min (Int.toNat (8:Int)) (IntKind.bits u64))) ||| ofInt (IntKind.bits u64) (wrap u64 z0))):Int)*(2:Int)^min (Int.toNat (8:Int)) (IntKind.bits u64))) |||
                     ofInt (IntKind.bits u64) (wrap u64 z1))):
                   Int)*
                 (2:Int)^min (Int.toNat (8:Int)) (IntKind.bits u64))) |||
              ofInt (IntKind.bits u64) (wrap u64 z2))):
            Int)*
          (2:Int)^min (Int.toNat (8:Int)) (IntKind.bits u64))) |||
       ofInt (IntKind.bits u64) (wrap u64 (0:Int)))):
     Int)))
  (aw (1:Nat) b e)) (aw (1:Nat) b e)) ⟨[(.cells [aF,(kW b e),(kV b e a),(kX b e)]),(eY (fu
  (wrap u32
   (wrap u64
    (↑(toNat
      (ofInt (IntKind.bits u64)
        (wrap u64
         (wrap u64
           (↑(toNat
             (ofInt (IntKind.bits u64)
               (wrap u64
                (wrap u64
                  (↑(toNat
                    (ofInt (IntKind.bits u64)
                      (wrap u64
                       (wrap u64 (↑(toNat (ofInt (IntKind.bits u64) (wrap u64 ((0:Int)*(2:Int)^min (Int.toNat (8:Int)) (IntKind.bits u64))) ||| ofInt (IntKind.bits u64) (wrap u64 z0))):Int)*(2:Int)^min (Int.toNat (8:Int)) (IntKind.bits u64))) |||
                     ofInt (IntKind.bits u64) (wrap u64 z1))):
                   Int)*
                 (2:Int)^min (Int.toNat (8:Int)) (IntKind.bits u64))) |||
              ofInt (IntKind.bits u64) (wrap u64 z2))):
            Int)*
          (2:Int)^min (Int.toNat (8:Int)) (IntKind.bits u64))) |||
       ofInt (IntKind.bits u64) (wrap u64 (0:Int)))):
     Int)))
  (aw (1:Nat) b e)) (aw (1:Nat) b e)),(.cells [(bG z0),(bG z1),(bG z2),jS])],[]⟩)))))))):=by kernel_rfl
abbrev HY (z0:Int)(z1:Int)(z2:Int)(B:Bs)(n:Int)(e:Int):VO:=(eY (wrap u32
 (↑(toNat
   (ofInt (IntKind.bits u32)
     (wrap u32
      (↑(toNat
        (ofInt (IntKind.bits u32)
          (wrap u32
           (↑(toNat (ofInt (IntKind.bits u32) (0:Int) ||| ofInt (IntKind.bits u32) (wrap u32 (wrap u32 z0*(2:Int)^min (Int.toNat (wrap u64 (wrap i64 ((24:Int)-wrap i64 ((8:Int)*(0:Int)))))) (IntKind.bits u32))))):Int)) |||
         ofInt (IntKind.bits u32) (wrap u32 (wrap u32 z1*(2:Int)^min (Int.toNat (wrap u64 (wrap i64 ((24:Int)-wrap i64 ((8:Int)*wrap i64 ((0:Int)+(1:Int))))))) (IntKind.bits u32))))):
       Int)) |||
    ofInt (IntKind.bits u32) (wrap u32 (wrap u32 z2*(2:Int)^min (Int.toNat (wrap u64 (wrap i64 ((24:Int)-wrap i64 ((8:Int)*wrap i64 (wrap i64 ((0:Int)+(1:Int))+(1:Int))))))) (IntKind.bits u32))))):
  Int)) (aw (1:Nat) (aa B n) e))
theorem Qo (B:Bs)(n e:Int)(z0 z1 z2:Int)(Q:TV→VT→Prop):au prog ah (aI [(iE,ml .i64 1),(iD,AM [bT z0,bT z1,bT z2]),(sj,nL)]) aM 300 aG 0 lT [.ptr 0 0] (bC (bf B n e)) Q=
 (((@Eq (Bool) true true)∧
 (IsB (B)∧
 bq (B) (n)))∧
 (bif aq neq (k6 (ar (↑(1:Nat):Int) (aa B n) e) (0:Int))
 then Q dr ⟨[(.cells [(an B),(ae (aX (↑(1:Nat):Int) B n e)),(ae (ar (↑(1:Nat):Int) (aa B n) e))]),dq],[]⟩
 else (bif decide (aw (1:Nat) (aa B n) e>(32:Int))
 then Q dr ⟨[(.cells [(an B),(ae (aX (↑(1:Nat):Int) B n e)),(ae (ar (↑(1:Nat):Int) (aa B n) e))]),dq],[]⟩
 else ((((@Eq (Bool) true true)∧
 (IsB (B)∧
 bq (B) (aX (↑(1:Nat):Int) B n e)))∧
 (@Eq (Bs) (bv (wrap i64 (tdiv (wrap i64 (aw (1:Nat) (aa B n) e+(7:Int))) (8:Int))) (aa B (aX (↑(1:Nat):Int) B n e)) (ar (↑(1:Nat):Int) (aa B n) e)) [(dm z0),(dm z1),(dm z2)]))∧
 (bif aq neq (k6 (ar (wrap i64 (tdiv (wrap i64 (aw (1:Nat) (aa B n) e+(7:Int))) (8:Int))) (aa B (aX (↑(1:Nat):Int) B n e)) (ar (↑(1:Nat):Int) (aa B n) e)) (0:Int))
 then Q dr ⟨[(.cells [(an B),(kZ B n e),(kY B n e)]),dq,(HY z0 z1 z2 B n e)],[]⟩
 else (ko (aw (1:Nat) (aa B n) e)∧
 Q (nd (fu
  (wrap u32
   (↑(toNat
     (ofInt (IntKind.bits u32)
       (wrap u32
        (↑(toNat
          (ofInt (IntKind.bits u32)
            (wrap u32
             (↑(toNat (ofInt (IntKind.bits u32) (0:Int) ||| ofInt (IntKind.bits u32) (wrap u32 (wrap u32 z0*(2:Int)^min (Int.toNat (wrap u64 (wrap i64 ((24:Int)-wrap i64 ((8:Int)*(0:Int)))))) (IntKind.bits u32))))):Int)) |||
           ofInt (IntKind.bits u32) (wrap u32 (wrap u32 z1*(2:Int)^min (Int.toNat (wrap u64 (wrap i64 ((24:Int)-wrap i64 ((8:Int)*wrap i64 ((0:Int)+(1:Int))))))) (IntKind.bits u32))))):
         Int)) |||
      ofInt (IntKind.bits u32) (wrap u32 (wrap u32 z2*(2:Int)^min (Int.toNat (wrap u64 (wrap i64 ((24:Int)-wrap i64 ((8:Int)*wrap i64 (wrap i64 ((0:Int)+(1:Int))+(1:Int))))))) (IntKind.bits u32))))):
    Int))
  (aw (1:Nat) (aa B n) e)) (aw (1:Nat) (aa B n) e)) ⟨[(.cells [(an B),(kZ B n e),(kY B n e)]),(eY (fu
  (wrap u32
   (↑(toNat
     (ofInt (IntKind.bits u32)
       (wrap u32
        (↑(toNat
          (ofInt (IntKind.bits u32)
            (wrap u32
             (↑(toNat (ofInt (IntKind.bits u32) (0:Int) ||| ofInt (IntKind.bits u32) (wrap u32 (wrap u32 z0*(2:Int)^min (Int.toNat (wrap u64 (wrap i64 ((24:Int)-wrap i64 ((8:Int)*(0:Int)))))) (IntKind.bits u32))))):Int)) |||
           ofInt (IntKind.bits u32) (wrap u32 (wrap u32 z1*(2:Int)^min (Int.toNat (wrap u64 (wrap i64 ((24:Int)-wrap i64 ((8:Int)*wrap i64 ((0:Int)+(1:Int))))))) (IntKind.bits u32))))):
         Int)) |||
      ofInt (IntKind.bits u32) (wrap u32 (wrap u32 z2*(2:Int)^min (Int.toNat (wrap u64 (wrap i64 ((24:Int)-wrap i64 ((8:Int)*wrap i64 (wrap i64 ((0:Int)+(1:Int))+(1:Int))))))) (IntKind.bits u32))))):
    Int))
  (aw (1:Nat) (aa B n) e)) (aw (1:Nat) (aa B n) e)),(HY z0 z1 z2 B n e)],[]⟩)))))):=by kernel_rfl
theorem Qp (b:Bs)(a e:Int)(z0 z1 z2 z3:Int)(Q:TV→VT→Prop):au prog ah (aI [(jb,mi .i64 1),(jD,mj),(j5,AL [bT z0,bT z1,bT z2,bT z3]),(si,nL)]) aM 300 aG 0 lS [.ptr 0 0] (bC (aN b a e)) Q=
 (((@Eq (Bool) true true)∧
 IsB (b))∧
 (((@Eq (Bool) true true)∧
 IsB (aC (↑(1:Nat):Int) b e))∧
 (bif aq neq (k6 (ar (↑(1:Nat):Int) b e) (0:Int))
 then Q dr ⟨[(.cells [aF,(an (aC (↑(1:Nat):Int) b e)),(ae (bN (↑(1:Nat):Int) b e a)),(ae (ar (↑(1:Nat):Int) b e))]),dq],[]⟩
 else (bif decide (aw (1:Nat) b e>(32:Int))
 then Q dr ⟨[(.cells [aF,(an (aC (↑(1:Nat):Int) b e)),(ae (bN (↑(1:Nat):Int) b e a)),(ae (ar (↑(1:Nat):Int) b e))]),dq],[]⟩
 else ((((@Eq (Bool) true true)∧
 IsB (aC (↑(1:Nat):Int) b e))∧
 (@Eq (Bs) (bv (wrap i64 (tdiv (wrap i64 (wrap i64 (aw (1:Nat) b e+(8:Int))-(1:Int))) (8:Int))) (aC (↑(1:Nat):Int) b e) (ar (↑(1:Nat):Int) b e)) [(dm z0),(dm z1),(dm z2),(dm z3)]))∧
 (((@Eq (Bool) true true)∧
 IsB (aC (wrap i64 (tdiv (wrap i64 (wrap i64 (aw (1:Nat) b e+(8:Int))-(1:Int))) (8:Int))) (aC (↑(1:Nat):Int) b e) (ar (↑(1:Nat):Int) b e)))∧
 (bif aq neq (k6 (ar (wrap i64 (tdiv (wrap i64 (wrap i64 (aw (1:Nat) b e+(8:Int))-(1:Int))) (8:Int))) (aC (↑(1:Nat):Int) b e) (ar (↑(1:Nat):Int) b e)) (0:Int))
 then Q dr ⟨[(.cells [aF,(kW b e),(kV b e a),(kX b e)]),dq,(.cells [(bG z0),(bG z1),(bG z2),(bG z3)])],[]⟩
 else (ko (aw (1:Nat) b e)∧
 Q (nd (fu
  (wrap u32
   (wrap u64
    (↑(toNat
      (ofInt (IntKind.bits u64)
        (wrap u64
         (wrap u64
           (↑(toNat
             (ofInt (IntKind.bits u64)
               (wrap u64
                (wrap u64
                  (↑(toNat
                    (ofInt (IntKind.bits u64)
                      (wrap u64
                       (wrap u64 (↑(toNat (ofInt (IntKind.bits u64) (wrap u64 ((0:Int)*(2:Int)^min (Int.toNat (8:Int)) (IntKind.bits u64))) ||| ofInt (IntKind.bits u64) (wrap u64 z0))):Int)*(2:Int)^min (Int.toNat (8:Int)) (IntKind.bits u64))) |||
                     ofInt (IntKind.bits u64) (wrap u64 z1))):
                   Int)*
                 (2:Int)^min (Int.toNat (8:Int)) (IntKind.bits u64))) |||
              ofInt (IntKind.bits u64) (wrap u64 z2))):
            Int)*
          (2:Int)^min (Int.toNat (8:Int)) (IntKind.bits u64))) |||
       ofInt (IntKind.bits u64) (wrap u64 z3))):
     Int)))
  (aw (1:Nat) b e)) (aw (1:Nat) b e)) ⟨[(.cells [aF,(kW b e),(kV b e a),(kX b e)]),(eY (fu
  (wrap u32
   (wrap u64
    (↑(toNat
      (ofInt (IntKind.bits u64)
        (wrap u64
         (wrap u64
           (↑(toNat
             (ofInt (IntKind.bits u64)
               (wrap u64
                (wrap u64
                  (↑(toNat
                    (ofInt (IntKind.bits u64)
                      (wrap u64
                       (wrap u64 (↑(toNat (ofInt (IntKind.bits u64) (wrap u64 ((0:Int)*(2:Int)^min (Int.toNat (8:Int)) (IntKind.bits u64))) ||| ofInt (IntKind.bits u64) (wrap u64 z0))):Int)*(2:Int)^min (Int.toNat (8:Int)) (IntKind.bits u64))) |||
                     ofInt (IntKind.bits u64) (wrap u64 z1))):
                   Int)*
                 (2:Int)^min (Int.toNat (8:Int)) (IntKind.bits u64))) |||
              ofInt (IntKind.bits u64) (wrap u64 z2))):
            Int)*
          (2:Int)^min (Int.toNat (8:Int)) (IntKind.bits u64))) |||
       ofInt (IntKind.bits u64) (wrap u64 z3))):
     Int)))
  (aw (1:Nat) b e)) (aw (1:Nat) b e)),(.cells [(bG z0),(bG z1),(bG z2),(bG z3)])],[]⟩)))))))):=by kernel_rfl
abbrev HZ (z0:Int)(z1:Int)(z2:Int)(z3:Int)(B:Bs)(n:Int)(e:Int):VO:=(eY (wrap u32
 (↑(toNat
   (ofInt (IntKind.bits u32)
     (wrap u32
      (↑(toNat
        (ofInt (IntKind.bits u32)
          (wrap u32
           (↑(toNat
             (ofInt (IntKind.bits u32)
               (wrap u32
                (↑(toNat (ofInt (IntKind.bits u32) (0:Int) ||| ofInt (IntKind.bits u32) (wrap u32 (wrap u32 z0*(2:Int)^min (Int.toNat (wrap u64 (wrap i64 ((24:Int)-wrap i64 ((8:Int)*(0:Int)))))) (IntKind.bits u32))))):Int)) |||
              ofInt (IntKind.bits u32) (wrap u32 (wrap u32 z1*(2:Int)^min (Int.toNat (wrap u64 (wrap i64 ((24:Int)-wrap i64 ((8:Int)*wrap i64 ((0:Int)+(1:Int))))))) (IntKind.bits u32))))):
            Int)) |||
         ofInt (IntKind.bits u32) (wrap u32 (wrap u32 z2*(2:Int)^min (Int.toNat (wrap u64 (wrap i64 ((24:Int)-wrap i64 ((8:Int)*wrap i64 (wrap i64 ((0:Int)+(1:Int))+(1:Int))))))) (IntKind.bits u32))))):
       Int)) |||
    ofInt (IntKind.bits u32)
     (wrap u32 (wrap u32 z3*(2:Int)^min (Int.toNat (wrap u64 (wrap i64 ((24:Int)-wrap i64 ((8:Int)*wrap i64 (wrap i64 (wrap i64 ((0:Int)+(1:Int))+(1:Int))+(1:Int))))))) (IntKind.bits u32))))):
  Int)) (aw (1:Nat) (aa B n) e))
theorem Qq (B:Bs)(n e:Int)(z0 z1 z2 z3:Int)(Q:TV→VT→Prop):au prog ah (aI [(iE,ml .i64 1),(iD,AM [bT z0,bT z1,bT z2,bT z3]),(sj,nL)]) aM 300 aG 0 lT [.ptr 0 0] (bC (bf B n e)) Q=
 (((@Eq (Bool) true true)∧
 (IsB (B)∧
 bq (B) (n)))∧
 (bif aq neq (k6 (ar (↑(1:Nat):Int) (aa B n) e) (0:Int))
 then Q dr ⟨[(.cells [(an B),(ae (aX (↑(1:Nat):Int) B n e)),(ae (ar (↑(1:Nat):Int) (aa B n) e))]),dq],[]⟩
 else (bif decide (aw (1:Nat) (aa B n) e>(32:Int))
 then Q dr ⟨[(.cells [(an B),(ae (aX (↑(1:Nat):Int) B n e)),(ae (ar (↑(1:Nat):Int) (aa B n) e))]),dq],[]⟩
 else ((((@Eq (Bool) true true)∧
 (IsB (B)∧
 bq (B) (aX (↑(1:Nat):Int) B n e)))∧
 (@Eq (Bs) (bv (wrap i64 (tdiv (wrap i64 (aw (1:Nat) (aa B n) e+(7:Int))) (8:Int))) (aa B (aX (↑(1:Nat):Int) B n e)) (ar (↑(1:Nat):Int) (aa B n) e)) [(dm z0),(dm z1),(dm z2),(dm z3)]))∧
 (bif aq neq (k6 (ar (wrap i64 (tdiv (wrap i64 (aw (1:Nat) (aa B n) e+(7:Int))) (8:Int))) (aa B (aX (↑(1:Nat):Int) B n e)) (ar (↑(1:Nat):Int) (aa B n) e)) (0:Int))
 then Q dr ⟨[(.cells [(an B),(kZ B n e),(kY B n e)]),dq,(HZ z0 z1 z2 z3 B n e)],[]⟩
 else (ko (aw (1:Nat) (aa B n) e)∧
 Q (nd (fu
  (wrap u32
   (↑(toNat
     (ofInt (IntKind.bits u32)
       (wrap u32
        (↑(toNat
          (ofInt (IntKind.bits u32)
            (wrap u32
             (↑(toNat
               (ofInt (IntKind.bits u32)
                 (wrap u32
                  (↑(toNat (ofInt (IntKind.bits u32) (0:Int) ||| ofInt (IntKind.bits u32) (wrap u32 (wrap u32 z0*(2:Int)^min (Int.toNat (wrap u64 (wrap i64 ((24:Int)-wrap i64 ((8:Int)*(0:Int)))))) (IntKind.bits u32))))):Int)) |||
                ofInt (IntKind.bits u32) (wrap u32 (wrap u32 z1*(2:Int)^min (Int.toNat (wrap u64 (wrap i64 ((24:Int)-wrap i64 ((8:Int)*wrap i64 ((0:Int)+(1:Int))))))) (IntKind.bits u32))))):
              Int)) |||
           ofInt (IntKind.bits u32) (wrap u32 (wrap u32 z2*(2:Int)^min (Int.toNat (wrap u64 (wrap i64 ((24:Int)-wrap i64 ((8:Int)*wrap i64 (wrap i64 ((0:Int)+(1:Int))+(1:Int))))))) (IntKind.bits u32))))):
         Int)) |||
      ofInt (IntKind.bits u32)
       (wrap u32 (wrap u32 z3*(2:Int)^min (Int.toNat (wrap u64 (wrap i64 ((24:Int)-wrap i64 ((8:Int)*wrap i64 (wrap i64 (wrap i64 ((0:Int)+(1:Int))+(1:Int))+(1:Int))))))) (IntKind.bits u32))))):
    Int))
  (aw (1:Nat) (aa B n) e)) (aw (1:Nat) (aa B n) e)) ⟨[(.cells [(an B),(kZ B n e),(kY B n e)]),(eY (fu
  (wrap u32
   (↑(toNat
     (ofInt (IntKind.bits u32)
       (wrap u32
        (↑(toNat
          (ofInt (IntKind.bits u32)
            (wrap u32
             (↑(toNat
               (ofInt (IntKind.bits u32)
                 (wrap u32
                  (↑(toNat (ofInt (IntKind.bits u32) (0:Int) ||| ofInt (IntKind.bits u32) (wrap u32 (wrap u32 z0*(2:Int)^min (Int.toNat (wrap u64 (wrap i64 ((24:Int)-wrap i64 ((8:Int)*(0:Int)))))) (IntKind.bits u32))))):Int)) |||
                ofInt (IntKind.bits u32) (wrap u32 (wrap u32 z1*(2:Int)^min (Int.toNat (wrap u64 (wrap i64 ((24:Int)-wrap i64 ((8:Int)*wrap i64 ((0:Int)+(1:Int))))))) (IntKind.bits u32))))):
              Int)) |||
           ofInt (IntKind.bits u32) (wrap u32 (wrap u32 z2*(2:Int)^min (Int.toNat (wrap u64 (wrap i64 ((24:Int)-wrap i64 ((8:Int)*wrap i64 (wrap i64 ((0:Int)+(1:Int))+(1:Int))))))) (IntKind.bits u32))))):
         Int)) |||
      ofInt (IntKind.bits u32)
       (wrap u32 (wrap u32 z3*(2:Int)^min (Int.toNat (wrap u64 (wrap i64 ((24:Int)-wrap i64 ((8:Int)*wrap i64 (wrap i64 (wrap i64 ((0:Int)+(1:Int))+(1:Int))+(1:Int))))))) (IntKind.bits u32))))):
    Int))
  (aw (1:Nat) (aa B n) e)) (aw (1:Nat) (aa B n) e)),(HZ z0 z1 z2 z3 B n e)],[]⟩)))))):=by kernel_rfl
theorem AN {n:Int}(h:ko n):n=0∨n=1∨n=2∨n=3∨n=4∨n=5∨n=6∨n=7∨n=8∨n=9∨n=10∨n=11∨n=12∨n=13∨n=14∨n=15∨n=16∨n=17∨n=18∨n=19∨n=20∨n=21∨n=22∨n=23∨n=24∨n=25∨n=26∨n=27∨n=28∨n=29∨n=30∨n=31∨n=32:=by
 obtain ⟨h0,h1⟩:=h;omega
theorem Qr {n:Int}(h:ko n):VCx prog ah 0 dw [.val (.int .i64 n)] ⟨[],[]⟩ λx T'=>x=.val (.int .u32 (vN n))∧T'=⟨[],[]⟩:=by
 rcases AN h with rfl | rfl | rfl | rfl | rfl | rfl | rfl | rfl | rfl | rfl | rfl | rfl | rfl | rfl | rfl | rfl | rfl | rfl | rfl | rfl | rfl | rfl | rfl | rfl | rfl | rfl | rfl | rfl | rfl | rfl | rfl | rfl | rfl
 ·exact aj ag ac am ai (PX _) ⟨rfl,rfl⟩
 ·exact aj ag ac am ai (PY _) ⟨rfl,rfl⟩
 ·exact aj ag ac am ai (PZ _) ⟨rfl,rfl⟩
 ·exact aj ag ac am ai (P0 _) ⟨rfl,rfl⟩
 ·exact aj ag ac am ai (P1 _) ⟨rfl,rfl⟩
 ·exact aj ag ac am ai (P2 _) ⟨rfl,rfl⟩
 ·exact aj ag ac am ai (P3 _) ⟨rfl,rfl⟩
 ·exact aj ag ac am ai (P4 _) ⟨rfl,rfl⟩
 ·exact aj ag ac am ai (P5 _) ⟨rfl,rfl⟩
 ·exact aj ag ac am ai (P6 _) ⟨rfl,rfl⟩
 ·exact aj ag ac am ai (Mb _) ⟨rfl,rfl⟩
 ·exact aj ag ac am ai (Mc _) ⟨rfl,rfl⟩
 ·exact aj ag ac am ai (Md _) ⟨rfl,rfl⟩
 ·exact aj ag ac am ai (Me _) ⟨rfl,rfl⟩
 ·exact aj ag ac am ai (Mf _) ⟨rfl,rfl⟩
 ·exact aj ag ac am ai (Mg _) ⟨rfl,rfl⟩
 ·exact aj ag ac am ai (Mh _) ⟨rfl,rfl⟩
 ·exact aj ag ac am ai (Mi _) ⟨rfl,rfl⟩
 ·exact aj ag ac am ai (Mj _) ⟨rfl,rfl⟩
 ·exact aj ag ac am ai (Mk _) ⟨rfl,rfl⟩
 ·exact aj ag ac am ai (Ml _) ⟨rfl,rfl⟩
 ·exact aj ag ac am ai (Mm _) ⟨rfl,rfl⟩
 ·exact aj ag ac am ai (Mn _) ⟨rfl,rfl⟩
 ·exact aj ag ac am ai (Mo _) ⟨rfl,rfl⟩
 ·exact aj ag ac am ai (Mp _) ⟨rfl,rfl⟩
 ·exact aj ag ac am ai (Mq _) ⟨rfl,rfl⟩
 ·exact aj ag ac am ai (Mr _) ⟨rfl,rfl⟩
 ·exact aj ag ac am ai (Ms _) ⟨rfl,rfl⟩
 ·exact aj ag ac am ai (Mt _) ⟨rfl,rfl⟩
 ·exact aj ag ac am ai (Mu _) ⟨rfl,rfl⟩
 ·exact aj ag ac am ai (Mv _) ⟨rfl,rfl⟩
 ·exact aj ag ac am ai (Mw _) ⟨rfl,rfl⟩
 ·exact aj ag ac am ai (Mx _) ⟨rfl,rfl⟩
theorem Qs:∀ro ys T K,FG ro ys T K→VCx prog ah ro dw ys T K:=by
 intro ro ys T K hw
 unfold FG at hw
 split at hw
 ·exact VCx.liftPure aP (Qr hw.1) rfl (λ_ _=>rfl) hw.2
 ·exact hw.elim
theorem Qt {n:Int}(h:ko n):VCx prog ah 0 dx [.val (.int .i64 n)] ⟨[],[]⟩ λx T'=>x=.val (.int .u32 (vN n))∧T'=⟨[],[]⟩:=by
 rcases AN h with rfl | rfl | rfl | rfl | rfl | rfl | rfl | rfl | rfl | rfl | rfl | rfl | rfl | rfl | rfl | rfl | rfl | rfl | rfl | rfl | rfl | rfl | rfl | rfl | rfl | rfl | rfl | rfl | rfl | rfl | rfl | rfl | rfl
 ·exact aj ag ac am ai (P7 _) ⟨rfl,rfl⟩
 ·exact aj ag ac am ai (P8 _) ⟨rfl,rfl⟩
 ·exact aj ag ac am ai (P9 _) ⟨rfl,rfl⟩
 ·exact aj ag ac am ai (Qa _) ⟨rfl,rfl⟩
 ·exact aj ag ac am ai (Qb _) ⟨rfl,rfl⟩
 ·exact aj ag ac am ai (Qc _) ⟨rfl,rfl⟩
 ·exact aj ag ac am ai (Qd _) ⟨rfl,rfl⟩
 ·exact aj ag ac am ai (Qe _) ⟨rfl,rfl⟩
 ·exact aj ag ac am ai (Qf _) ⟨rfl,rfl⟩
 ·exact aj ag ac am ai (Qg _) ⟨rfl,rfl⟩
 ·exact aj ag ac am ai (My _) ⟨rfl,rfl⟩
 ·exact aj ag ac am ai (Mz _) ⟨rfl,rfl⟩
 ·exact aj ag ac am ai (MA _) ⟨rfl,rfl⟩
 ·exact aj ag ac am ai (MB _) ⟨rfl,rfl⟩
 ·exact aj ag ac am ai (MC _) ⟨rfl,rfl⟩
 ·exact aj ag ac am ai (MD _) ⟨rfl,rfl⟩
 ·exact aj ag ac am ai (ME _) ⟨rfl,rfl⟩
 ·exact aj ag ac am ai (MF _) ⟨rfl,rfl⟩
 ·exact aj ag ac am ai (MG _) ⟨rfl,rfl⟩
 ·exact aj ag ac am ai (MH _) ⟨rfl,rfl⟩
 ·exact aj ag ac am ai (MI _) ⟨rfl,rfl⟩
 ·exact aj ag ac am ai (MJ _) ⟨rfl,rfl⟩
 ·exact aj ag ac am ai (MK _) ⟨rfl,rfl⟩
 ·exact aj ag ac am ai (ML _) ⟨rfl,rfl⟩
 ·exact aj ag ac am ai (MM _) ⟨rfl,rfl⟩
 ·exact aj ag ac am ai (MN _) ⟨rfl,rfl⟩
 ·exact aj ag ac am ai (MO _) ⟨rfl,rfl⟩
 ·exact aj ag ac am ai (MP _) ⟨rfl,rfl⟩
 ·exact aj ag ac am ai (MQ _) ⟨rfl,rfl⟩
 ·exact aj ag ac am ai (MR _) ⟨rfl,rfl⟩
 ·exact aj ag ac am ai (MS _) ⟨rfl,rfl⟩
 ·exact aj ag ac am ai (MT _) ⟨rfl,rfl⟩
 ·exact aj ag ac am ai (MU _) ⟨rfl,rfl⟩
theorem Qu:∀ro ys T K,FG ro ys T K→VCx prog ah ro dx ys T K:=by
 intro ro ys T K hw
 unfold FG at hw
 split at hw
 ·exact VCx.liftPure aP (Qt hw.1) rfl (λ_ _=>rfl) hw.2
 ·exact hw.elim
theorem Qv (a:Int){n:Int}(h:ko n):VCx prog ah 0 si [.agg [.val (.int .u32 a),.val (.int .i64 n)]] ⟨[],[]⟩ λx T'=>x=.agg [.val (.int .u32 (fu a n)),.val (.int .i64 n)]∧T'=⟨[],[]⟩:=by
 refine VCx.keepQ 0 0 (le_refl _) (le_refl _) (aj ag ac (aQ λp hp=>by obtain rfl:=mem_singleton.1 hp;exact Qs) ai (Ta a n _) ?_)
 have e:(if (32:Int)<if (0:Int)>n then (0:Int) else n then (32:Int) else if (0:Int)>n then (0:Int) else n)=n:=by
  obtain ⟨h0,h1⟩:=h
  rw [if_neg (show ¬(0:Int)>n by omega),if_neg (by omega)]
 rw [e]
 exact ⟨h,rfl,rfl⟩
theorem Qw:∀ro ys T K,nL ro ys T K→VCx prog ah ro si ys T K:=by
 intro ro ys T K hw
 unfold nL at hw
 split at hw
 ·exact VCx.liftPure aP (Qv _ hw.1) rfl (λ_ _=>rfl) hw.2
 ·exact hw.elim
theorem Qx (a:Int){n:Int}(h:ko n):VCx prog ah 0 sj [.agg [.val (.int .u32 a),.val (.int .i64 n)]] ⟨[],[]⟩ λx T'=>x=.agg [.val (.int .u32 (fu a n)),.val (.int .i64 n)]∧T'=⟨[],[]⟩:=by
 refine VCx.keepQ 0 0 (le_refl _) (le_refl _) (aj ag ac (aQ λp hp=>by obtain rfl:=mem_singleton.1 hp;exact Qu) ai (Tc a n _) ?_)
 obtain ⟨h0,h1⟩:=h
 exact aO (decide_eq_false (by omega)) (aO (decide_eq_false (by omega)) ⟨⟨h0,h1⟩,rfl,rfl⟩)
theorem Qy:∀ro ys T K,nL ro ys T K→VCx prog ah ro sj ys T K:=by
 intro ro ys T K hw
 unfold nL at hw
 split at hw
 ·exact VCx.liftPure aP (Qx _ hw.1) rfl (λ_ _=>rfl) hw.2
 ·exact hw.elim
theorem Td (l:Bs):∀ro ys T K,AL l ro ys T K→VCx prog ah ro j5 ys T K:=by
 intro ro ys T K hw
 unfold AL at hw
 split at hw
 ·split at hw
  ·rename_i ho
   obtain ⟨⟨h1,h2⟩,hk⟩:=hw
   subst h2
   refine tV _ _ _ _ ?_
   unfold C1
   simp only [ho]
   exact ⟨h1,hk⟩
  ·exact hw.elim
 ·exact hw.elim
theorem Te (l:Bs):∀ro ys T K,AM l ro ys T K→VCx prog ah ro iD ys T K:=by
 intro ro ys T K hw
 unfold AM at hw
 split at hw
 ·split at hw
  ·rename_i ho
   obtain ⟨⟨h1,h2⟩,hk⟩:=hw
   subst h2
   refine oZ _ _ _ _ ?_
   unfold xI
   simp only [ho]
   exact ⟨h1,hk⟩
  ·exact hw.elim
 ·exact hw.elim
def du (n:Int):Int:=tdiv (n+7) 8
def Dc (l:Bs):Int:=io (l++List.replicate (4-l.length) (bT 0))
def bU (b:Bs)(e:Int):Bool:=decide (ar 1 b e=0)&&decide (aw 1 b e≤32)
def lU (b:Bs)(e:Int):Bs:=bv (du (aw 1 b e)) (aC 1 b e) (ar 1 b e)
def ic (b:Bs)(e:Int):Int:=ar (du (aw 1 b e)) (aC 1 b e) (ar 1 b e)
def bp (b:Bs)(e:Int):Bool:=bU b e&&decide (ic b e=0)
def ek (b:Bs)(e:Int):Bs:=bif bU b e then aC (du (aw 1 b e)) (aC 1 b e) (ar 1 b e) else aC 1 b e
def dQ (b:Bs)(e:Int):Int:=bif bU b e then ic b e else ar 1 b e
def ig (b:Bs)(e a:Int):Int:=bif bU b e then bN (du (aw 1 b e)) (aC 1 b e) (ar 1 b e) (bN 1 b e a) else bN 1 b e a
def bJ (b:Bs)(e:Int):Int:=bif bp b e then fu (Dc (lU b e)) (aw 1 b e) else 0
def bK (b:Bs)(e:Int):Int:=bif bp b e then aw 1 b e else 0
def cY (b:Bs)(e:Int):TV:=.tup [.agg [.val (.int .u32 (bJ b e)),.val (.int .i64 (bK b e))],.val (.bool (bp b e))]
def fX (B:Bs)(n e:Int):Int:=bif bU (aa B n) e then aX (du (aw 1 (aa B n) e)) B (aX 1 B n e) (ar 1 (aa B n) e) else aX 1 B n e
theorem gY {b:Bs}(hb:IsB b)(a e:Int)(l:List VO)(t:List (Nat × Nat × Bool)):VT.keep ⟨aN b a e::l,t⟩ 1 0=⟨[aN b a e],[]⟩:=by
 simp only [VT.keep,take_succ_cons,take_zero,map_cons,map_nil,bW hb]
theorem iF {B:Bs}(hB:IsB B)(n e:Int)(l:List VO)(t:List (Nat × Nat × Bool)):VT.keep ⟨bf B n e::l,t⟩ 1 0=⟨[bf B n e],[]⟩:=by
 simp only [VT.keep,take_succ_cons,take_zero,map_cons,map_nil,cl hB]
theorem Dd {b:Bs}{e:Int}(h:IsB b):IsB (ek b e):=by
 unfold ek;cases bU b e
 ·exact aH h
 ·exact aH (aH h)
theorem Tf {B:Bs}{n:Int}(h:bq B n)(e:Int):bq B (fX B n e):=by
 unfold fX;cases bU (aa B n) e
 ·exact bF h _ _
 ·exact bF (bF h _ _) _ _
theorem Qz {B:Bs}{n:Int}(h:bq B n)(e:Int):aa B (fX B n e)=ek (aa B n) e:=by
 unfold fX ek;cases bU (aa B n) e
 ·exact cm h _ _
 ·simp only [cond_true];rw [cm (bF h _ _),show aa B (aX 1 B n e)=_ from cm h 1 e]
theorem rf {b:Bs}(h:IsB b)(e:Int):0≤aw 1 b e∧aw 1 b e<256:=by
 rw [qZ];exact q8 (n:=1) h e
theorem JD {n:Int}(h0:0≤n)(h1:n<256):wrap .i64 (tdiv (wrap .i64 (wrap .i64 (n+(8:Int))-(1:Int))) (8:Int))=du n:=by
 unfold du
 rw [bE (z:=n+8) (by omega) (by omega),bE (z:=n+8-1) (by omega) (by omega),show n+8-1=n+7 by omega]
 have:=Int.tdiv_eq_ediv_of_nonneg (a:=n+7) (b:=8) (by omega)
 exact bE (by omega) (by omega)
theorem De {n:Int}(h0:0≤n)(h1:n<256):wrap .i64 (tdiv (wrap .i64 (n+(7:Int))) (8:Int))=du n:=by
 unfold du
 rw [bE (z:=n+7) (by omega) (by omega)]
 have:=Int.tdiv_eq_ediv_of_nonneg (a:=n+7) (b:=8) (by omega)
 exact bE (by omega) (by omega)
def wo (a z:Int)(m:Nat):Int:=wrap .u32 (toNat (ofInt (IntKind.bits .u32) a ||| ofInt (IntKind.bits .u32) (wrap .u32 (wrap .u32 z*(2:Int)^m))):Nat)
theorem Tg {q z:Nat}{m:Nat}(hm:m≤24)(hz:z<256)(hq:(q+1)*2^(m+8)≤4294967296):wo ((q*2^(m+8):Nat):Int) z m=((q*2^(m+8)+z*2^m:Nat):Int):=by
 have h1:z*2^m<2^(m+8):=by
  rw [Nat.pow_add,Nat.mul_comm z]
  exact Nat.mul_lt_mul_of_pos_left hz (Nat.pow_pos (by decide))
 have h2:q*2^(m+8)+2^(m+8)≤4294967296:=by rw [←Nat.succ_mul];exact hq
 have e1:wrap .u32 (z:Int)=(z:Int):=by simp only [wrap,IntKind.bits,signed];simp;omega
 have e2:(z:Int)*(2:Int)^m=((z*2^m:Nat):Int):=by simp
 have e3:wrap .u32 ((z*2^m:Nat):Int)=((z*2^m:Nat):Int):=by
  generalize z*2^m=y at*
  simp only [wrap,IntKind.bits,signed];simp;omega
 unfold wo
 rw [e1,e2,e3]
 have e4:(ofInt (IntKind.bits .u32) ((q*2^(m+8):Nat):Int) ||| ofInt (IntKind.bits .u32) ((z*2^m:Nat):Int)).toNat=q*2^(m+8)+z*2^m:=by
  rw [toNat_or]
  simp only [IntKind.bits,BitVec.ofInt_natCast,toNat_ofNat]
  have h3:q*2^(m+8)%2^32=q*2^(m+8):=mod_eq_of_lt (by omega)
  have h4:z*2^m%2^32=z*2^m:=mod_eq_of_lt (by omega)
  rw [h3,h4,Nat.mul_comm q,Nat.two_pow_add_eq_or_of_lt h1]
 rw [e4]
 have h5:q*2^(m+8)+z*2^m<4294967296:=by omega
 clear e4 h1 h2 hq e1 e2 e3
 generalize q*2^(m+8)+z*2^m=y at h5 ⊢
 simp only [wrap,IntKind.bits,signed];simp;omega
theorem kp (z0 z1 z2 z3:Int):Dc [bT z0,bT z1,bT z2,bT z3]=((z0*256+z1)*256+z2)*256+z3∧Dc [bT z0,bT z1,bT z2]=((z0*256+z1)*256+z2)*256∧Dc [bT z0,bT z1]=((z0*256+z1)*256)*256∧Dc [bT z0]=(z0*256*256)*256∧Dc []=0:=by
 refine ⟨?_,?_,?_,?_,?_⟩<;>simp [Dc,io,hZ,bT,List.replicate]
theorem Df (l:Bs):bk prog ah (aI [(jb,mi .i64 1),(jD,mj),(j5,AL l),(si,nL)]):=aQ λp hp=>by
 rcases mem_cons.1 hp with rfl | hp;exact ra
 rcases mem_cons.1 hp with rfl | hp;exact rc
 rcases mem_cons.1 hp with rfl | hp;exact Td l
 obtain rfl:=mem_singleton.1 hp;exact Qw
theorem Dg (l:Bs):bk prog ah (aI [(iE,ml .i64 1),(iD,AM l),(sj,nL)]):=aQ λp hp=>by
 rcases mem_cons.1 hp with rfl | hp;exact re
 rcases mem_cons.1 hp with rfl | hp;exact Te l
 obtain rfl:=mem_singleton.1 hp;exact Qy
def ip (b:Bs)(a e:Int):VT:=⟨[aN (ek b e) (ig b e a) (dQ b e)],[]⟩
def iq (B:Bs)(n e:Int):VT:=⟨[bf B (fX B n e) (dQ (aa B n) e)],[]⟩
theorem iZ {q z:Int}(m:Nat)(hm:m≤24)(hz0:0≤z)(hz:z<256)(hq0:0≤q)(hq:(q+1)*2^(m+8)≤4294967296):wo (q*2^(m+8)) z m=q*2^(m+8)+z*2^m:=by
 obtain ⟨q,rfl⟩:=Int.eq_ofNat_of_zero_le hq0
 obtain ⟨z,rfl⟩:=Int.eq_ofNat_of_zero_le hz0
 have h:=Tg (q:=q) (z:=z) hm (by omega) (Int.ofNat_le.1 (by rw [natCast_mul,natCast_pow,Int.natCast_add];exact hq))
 rw [natCast_mul,natCast_pow,Int.natCast_add,natCast_mul,natCast_mul,natCast_pow,natCast_pow] at h
 exact h
theorem Th {b:Bs}(hb:IsB b)(a e:Int)(hl:bU b e=true→lU b e= []):VCx prog ah 0 lS [.ptr 0 0] ⟨[aN b a e],[]⟩ λx T'=>x=cY b e∧T'=ip b a e:=by
 obtain ⟨hn0,hn1⟩:=rf hb e
 refine VCx.keepQ 1 0 (le_refl _) (le_refl _) (aj ag ac (Df []) ai (Qh b a e _) ?_)
 refine ⟨⟨rfl,hb⟩,⟨rfl,aH hb⟩,?_⟩
 by_cases h1:ar 1 b e=0
 ·refine aO (by rw [cC];exact congrArg Bool.not (decide_eq_true h1)) ?_
  by_cases h2:aw 1 b e≤32
  ·have hG:bU b e=true:=by unfold bU;rw [decide_eq_true h1,decide_eq_true h2];rfl
   have hL:=hl hG
   refine aO (decide_eq_false (by omega)) ?_
   try delta kV kW kX
   rw [JD hn0 hn1]
   refine ⟨⟨⟨rfl,aH hb⟩,hL⟩,⟨rfl,aH (aH hb)⟩,?_⟩
   have eT:∀l:List VO,VT.keep ⟨aN (aC (du (aw 1 b e)) (aC 1 b e) (ar 1 b e)) (bN (du (aw 1 b e)) (aC 1 b e) (ar 1 b e) (bN 1 b e a)) (ar (du (aw 1 b e)) (aC 1 b e) (ar 1 b e))::l,[]⟩ 1 0=ip b a e:=λl=>by
    rw [gY (aH (aH hb))];simp only [ip,ek,ig,dQ,ic,hG,cond_true]
   by_cases h3:ic b e=0
   ·have hO:bp b e=true:=by unfold bp;rw [hG,decide_eq_true h3];rfl
    refine aO (by rw [cC];exact congrArg Bool.not (decide_eq_true h3)) ⟨⟨hn0,h2⟩,?_,eT _⟩
    unfold cY bJ bK
    rw [hO]
    simp only [cond_true]
    refine congrArg (λy=>TV.tup [.agg [.val (.int .u32 (fu y (aw 1 b e))),.val (.int .i64 (aw 1 b e))],.val (.bool true)]) ?_
    rw [hL]
    have ha:=kp 0 0 0 0
    rw [cV (n:=0) (z:=0) (by omega) (by omega) (by omega) (by omega)]
    rw [cV (n:=(0*256+0)) (z:=0) (by omega) (by omega) (by omega) (by omega)]
    rw [cV (n:=((0*256+0)*256+0)) (z:=0) (by omega) (by omega) (by omega) (by omega)]
    rw [cV (n:=(((0*256+0)*256+0)*256+0)) (z:=0) (by omega) (by omega) (by omega) (by omega)]
    have hw64:wrap .u64 ((((0*256+0)*256+0)*256+0)*256+0)=((((0*256+0)*256+0)*256+0)*256+0):=by simp only [wrap,IntKind.bits,signed];simp<;>omega
    have hw32:wrap .u32 ((((0*256+0)*256+0)*256+0)*256+0)=((((0*256+0)*256+0)*256+0)*256+0):=by simp only [wrap,IntKind.bits,signed];simp<;>omega
    rw [ha.2.2.2.2]
    first | rw [hw64,hw32] | rw [hw32] | skip
    omega
   ·have hO:bp b e=false:=by unfold bp;rw [hG,decide_eq_false h3];rfl
    refine aU (by rw [cC];exact congrArg Bool.not (decide_eq_false h3)) ⟨?_,eT _⟩
    unfold cY bJ bK
    rw [hO];rfl
  ·have hG:bU b e=false:=by unfold bU;rw [decide_eq_false h2,Bool.and_false]
   have hO:bp b e=false:=by unfold bp;rw [hG];rfl
   refine aU (decide_eq_true (by omega)) ⟨?_,?_⟩
   ·unfold cY bJ bK
    rw [hO];rfl
   ·refine (gY (aH hb) _ _ _ _).trans ?_
    simp only [ip,ek,ig,dQ,hG,cond_false];rfl
 ·have hG:bU b e=false:=by unfold bU;rw [decide_eq_false h1,Bool.false_and]
  have hO:bp b e=false:=by unfold bp;rw [hG];rfl
  refine aU (by rw [cC];exact congrArg Bool.not (decide_eq_false h1)) ⟨?_,?_⟩
  ·unfold cY bJ bK
   rw [hO];rfl
  ·refine (gY (aH hb) _ _ _ _).trans ?_
   simp only [ip,ek,ig,dQ,hG,cond_false];rfl
theorem Xx {b:Bs}(hb:IsB b)(a e:Int){z0:Int}(hz0:0≤z0∧z0<256)(hl:bU b e=true→lU b e= [bT z0]):VCx prog ah 0 lS [.ptr 0 0] ⟨[aN b a e],[]⟩ λx T'=>x=cY b e∧T'=ip b a e:=by
 obtain ⟨hn0,hn1⟩:=rf hb e
 refine VCx.keepQ 1 0 (le_refl _) (le_refl _) (aj ag ac (Df [bT z0]) ai (Qj b a e z0 _) ?_)
 refine ⟨⟨rfl,hb⟩,⟨rfl,aH hb⟩,?_⟩
 by_cases h1:ar 1 b e=0
 ·refine aO (by rw [cC];exact congrArg Bool.not (decide_eq_true h1)) ?_
  by_cases h2:aw 1 b e≤32
  ·have hG:bU b e=true:=by unfold bU;rw [decide_eq_true h1,decide_eq_true h2];rfl
   have hL:=hl hG
   refine aO (decide_eq_false (by omega)) ?_
   try delta kV kW kX
   rw [JD hn0 hn1]
   refine ⟨⟨⟨rfl,aH hb⟩,hL⟩,⟨rfl,aH (aH hb)⟩,?_⟩
   have eT:∀l:List VO,VT.keep ⟨aN (aC (du (aw 1 b e)) (aC 1 b e) (ar 1 b e)) (bN (du (aw 1 b e)) (aC 1 b e) (ar 1 b e) (bN 1 b e a)) (ar (du (aw 1 b e)) (aC 1 b e) (ar 1 b e))::l,[]⟩ 1 0=ip b a e:=λl=>by
    rw [gY (aH (aH hb))];simp only [ip,ek,ig,dQ,ic,hG,cond_true]
   by_cases h3:ic b e=0
   ·have hO:bp b e=true:=by unfold bp;rw [hG,decide_eq_true h3];rfl
    refine aO (by rw [cC];exact congrArg Bool.not (decide_eq_true h3)) ⟨⟨hn0,h2⟩,?_,eT _⟩
    unfold cY bJ bK
    rw [hO]
    simp only [cond_true]
    refine congrArg (λy=>TV.tup [.agg [.val (.int .u32 (fu y (aw 1 b e))),.val (.int .i64 (aw 1 b e))],.val (.bool true)]) ?_
    rw [hL]
    have ha:=kp z0 0 0 0
    rw [cV (n:=0) (z:=z0) (by omega) (by omega) (by omega) (by omega)]
    rw [cV (n:=(0*256+z0)) (z:=0) (by omega) (by omega) (by omega) (by omega)]
    rw [cV (n:=((0*256+z0)*256+0)) (z:=0) (by omega) (by omega) (by omega) (by omega)]
    rw [cV (n:=(((0*256+z0)*256+0)*256+0)) (z:=0) (by omega) (by omega) (by omega) (by omega)]
    have hw64:wrap .u64 ((((0*256+z0)*256+0)*256+0)*256+0)=((((0*256+z0)*256+0)*256+0)*256+0):=by simp only [wrap,IntKind.bits,signed];simp<;>omega
    have hw32:wrap .u32 ((((0*256+z0)*256+0)*256+0)*256+0)=((((0*256+z0)*256+0)*256+0)*256+0):=by simp only [wrap,IntKind.bits,signed];simp<;>omega
    rw [ha.2.2.2.1]
    first | rw [hw64,hw32] | rw [hw32] | skip
    omega
   ·have hO:bp b e=false:=by unfold bp;rw [hG,decide_eq_false h3];rfl
    refine aU (by rw [cC];exact congrArg Bool.not (decide_eq_false h3)) ⟨?_,eT _⟩
    unfold cY bJ bK
    rw [hO];rfl
  ·have hG:bU b e=false:=by unfold bU;rw [decide_eq_false h2,Bool.and_false]
   have hO:bp b e=false:=by unfold bp;rw [hG];rfl
   refine aU (decide_eq_true (by omega)) ⟨?_,?_⟩
   ·unfold cY bJ bK
    rw [hO];rfl
   ·refine (gY (aH hb) _ _ _ _).trans ?_
    simp only [ip,ek,ig,dQ,hG,cond_false];rfl
 ·have hG:bU b e=false:=by unfold bU;rw [decide_eq_false h1,Bool.false_and]
  have hO:bp b e=false:=by unfold bp;rw [hG];rfl
  refine aU (by rw [cC];exact congrArg Bool.not (decide_eq_false h1)) ⟨?_,?_⟩
  ·unfold cY bJ bK
   rw [hO];rfl
  ·refine (gY (aH hb) _ _ _ _).trans ?_
   simp only [ip,ek,ig,dQ,hG,cond_false];rfl
theorem Xy {b:Bs}(hb:IsB b)(a e:Int){z0 z1:Int}(hz0:0≤z0∧z0<256)(hz1:0≤z1∧z1<256)(hl:bU b e=true→lU b e= [bT z0,bT z1]):VCx prog ah 0 lS [.ptr 0 0] ⟨[aN b a e],[]⟩ λx T'=>x=cY b e∧T'=ip b a e:=by
 obtain ⟨hn0,hn1⟩:=rf hb e
 refine VCx.keepQ 1 0 (le_refl _) (le_refl _) (aj ag ac (Df [bT z0,bT z1]) ai (Ql b a e z0 z1 _) ?_)
 refine ⟨⟨rfl,hb⟩,⟨rfl,aH hb⟩,?_⟩
 by_cases h1:ar 1 b e=0
 ·refine aO (by rw [cC];exact congrArg Bool.not (decide_eq_true h1)) ?_
  by_cases h2:aw 1 b e≤32
  ·have hG:bU b e=true:=by unfold bU;rw [decide_eq_true h1,decide_eq_true h2];rfl
   have hL:=hl hG
   refine aO (decide_eq_false (by omega)) ?_
   try delta kV kW kX
   rw [JD hn0 hn1]
   refine ⟨⟨⟨rfl,aH hb⟩,hL⟩,⟨rfl,aH (aH hb)⟩,?_⟩
   have eT:∀l:List VO,VT.keep ⟨aN (aC (du (aw 1 b e)) (aC 1 b e) (ar 1 b e)) (bN (du (aw 1 b e)) (aC 1 b e) (ar 1 b e) (bN 1 b e a)) (ar (du (aw 1 b e)) (aC 1 b e) (ar 1 b e))::l,[]⟩ 1 0=ip b a e:=λl=>by
    rw [gY (aH (aH hb))];simp only [ip,ek,ig,dQ,ic,hG,cond_true]
   by_cases h3:ic b e=0
   ·have hO:bp b e=true:=by unfold bp;rw [hG,decide_eq_true h3];rfl
    refine aO (by rw [cC];exact congrArg Bool.not (decide_eq_true h3)) ⟨⟨hn0,h2⟩,?_,eT _⟩
    unfold cY bJ bK
    rw [hO]
    simp only [cond_true]
    refine congrArg (λy=>TV.tup [.agg [.val (.int .u32 (fu y (aw 1 b e))),.val (.int .i64 (aw 1 b e))],.val (.bool true)]) ?_
    rw [hL]
    have ha:=kp z0 z1 0 0
    rw [cV (n:=0) (z:=z0) (by omega) (by omega) (by omega) (by omega)]
    rw [cV (n:=(0*256+z0)) (z:=z1) (by omega) (by omega) (by omega) (by omega)]
    rw [cV (n:=((0*256+z0)*256+z1)) (z:=0) (by omega) (by omega) (by omega) (by omega)]
    rw [cV (n:=(((0*256+z0)*256+z1)*256+0)) (z:=0) (by omega) (by omega) (by omega) (by omega)]
    have hw64:wrap .u64 ((((0*256+z0)*256+z1)*256+0)*256+0)=((((0*256+z0)*256+z1)*256+0)*256+0):=by simp only [wrap,IntKind.bits,signed];simp<;>omega
    have hw32:wrap .u32 ((((0*256+z0)*256+z1)*256+0)*256+0)=((((0*256+z0)*256+z1)*256+0)*256+0):=by simp only [wrap,IntKind.bits,signed];simp<;>omega
    rw [ha.2.2.1]
    first | rw [hw64,hw32] | rw [hw32] | skip
    omega
   ·have hO:bp b e=false:=by unfold bp;rw [hG,decide_eq_false h3];rfl
    refine aU (by rw [cC];exact congrArg Bool.not (decide_eq_false h3)) ⟨?_,eT _⟩
    unfold cY bJ bK
    rw [hO];rfl
  ·have hG:bU b e=false:=by unfold bU;rw [decide_eq_false h2,Bool.and_false]
   have hO:bp b e=false:=by unfold bp;rw [hG];rfl
   refine aU (decide_eq_true (by omega)) ⟨?_,?_⟩
   ·unfold cY bJ bK
    rw [hO];rfl
   ·refine (gY (aH hb) _ _ _ _).trans ?_
    simp only [ip,ek,ig,dQ,hG,cond_false];rfl
 ·have hG:bU b e=false:=by unfold bU;rw [decide_eq_false h1,Bool.false_and]
  have hO:bp b e=false:=by unfold bp;rw [hG];rfl
  refine aU (by rw [cC];exact congrArg Bool.not (decide_eq_false h1)) ⟨?_,?_⟩
  ·unfold cY bJ bK
   rw [hO];rfl
  ·refine (gY (aH hb) _ _ _ _).trans ?_
   simp only [ip,ek,ig,dQ,hG,cond_false];rfl
theorem Xz {b:Bs}(hb:IsB b)(a e:Int){z0 z1 z2:Int}(hz0:0≤z0∧z0<256)(hz1:0≤z1∧z1<256)(hz2:0≤z2∧z2<256)(hl:bU b e=true→lU b e= [bT z0,bT z1,bT z2]):VCx prog ah 0 lS [.ptr 0 0] ⟨[aN b a e],[]⟩ λx T'=>x=cY b e∧T'=ip b a e:=by
 obtain ⟨hn0,hn1⟩:=rf hb e
 refine VCx.keepQ 1 0 (le_refl _) (le_refl _) (aj ag ac (Df [bT z0,bT z1,bT z2]) ai (Qn b a e z0 z1 z2 _) ?_)
 refine ⟨⟨rfl,hb⟩,⟨rfl,aH hb⟩,?_⟩
 by_cases h1:ar 1 b e=0
 ·refine aO (by rw [cC];exact congrArg Bool.not (decide_eq_true h1)) ?_
  by_cases h2:aw 1 b e≤32
  ·have hG:bU b e=true:=by unfold bU;rw [decide_eq_true h1,decide_eq_true h2];rfl
   have hL:=hl hG
   refine aO (decide_eq_false (by omega)) ?_
   try delta kV kW kX
   rw [JD hn0 hn1]
   refine ⟨⟨⟨rfl,aH hb⟩,hL⟩,⟨rfl,aH (aH hb)⟩,?_⟩
   have eT:∀l:List VO,VT.keep ⟨aN (aC (du (aw 1 b e)) (aC 1 b e) (ar 1 b e)) (bN (du (aw 1 b e)) (aC 1 b e) (ar 1 b e) (bN 1 b e a)) (ar (du (aw 1 b e)) (aC 1 b e) (ar 1 b e))::l,[]⟩ 1 0=ip b a e:=λl=>by
    rw [gY (aH (aH hb))];simp only [ip,ek,ig,dQ,ic,hG,cond_true]
   by_cases h3:ic b e=0
   ·have hO:bp b e=true:=by unfold bp;rw [hG,decide_eq_true h3];rfl
    refine aO (by rw [cC];exact congrArg Bool.not (decide_eq_true h3)) ⟨⟨hn0,h2⟩,?_,eT _⟩
    unfold cY bJ bK
    rw [hO]
    simp only [cond_true]
    refine congrArg (λy=>TV.tup [.agg [.val (.int .u32 (fu y (aw 1 b e))),.val (.int .i64 (aw 1 b e))],.val (.bool true)]) ?_
    rw [hL]
    have ha:=kp z0 z1 z2 0
    rw [cV (n:=0) (z:=z0) (by omega) (by omega) (by omega) (by omega)]
    rw [cV (n:=(0*256+z0)) (z:=z1) (by omega) (by omega) (by omega) (by omega)]
    rw [cV (n:=((0*256+z0)*256+z1)) (z:=z2) (by omega) (by omega) (by omega) (by omega)]
    rw [cV (n:=(((0*256+z0)*256+z1)*256+z2)) (z:=0) (by omega) (by omega) (by omega) (by omega)]
    have hw64:wrap .u64 ((((0*256+z0)*256+z1)*256+z2)*256+0)=((((0*256+z0)*256+z1)*256+z2)*256+0):=by simp only [wrap,IntKind.bits,signed];simp<;>omega
    have hw32:wrap .u32 ((((0*256+z0)*256+z1)*256+z2)*256+0)=((((0*256+z0)*256+z1)*256+z2)*256+0):=by simp only [wrap,IntKind.bits,signed];simp<;>omega
    rw [ha.2.1]
    first | rw [hw64,hw32] | rw [hw32] | skip
    omega
   ·have hO:bp b e=false:=by unfold bp;rw [hG,decide_eq_false h3];rfl
    refine aU (by rw [cC];exact congrArg Bool.not (decide_eq_false h3)) ⟨?_,eT _⟩
    unfold cY bJ bK
    rw [hO];rfl
  ·have hG:bU b e=false:=by unfold bU;rw [decide_eq_false h2,Bool.and_false]
   have hO:bp b e=false:=by unfold bp;rw [hG];rfl
   refine aU (decide_eq_true (by omega)) ⟨?_,?_⟩
   ·unfold cY bJ bK
    rw [hO];rfl
   ·refine (gY (aH hb) _ _ _ _).trans ?_
    simp only [ip,ek,ig,dQ,hG,cond_false];rfl
 ·have hG:bU b e=false:=by unfold bU;rw [decide_eq_false h1,Bool.false_and]
  have hO:bp b e=false:=by unfold bp;rw [hG];rfl
  refine aU (by rw [cC];exact congrArg Bool.not (decide_eq_false h1)) ⟨?_,?_⟩
  ·unfold cY bJ bK
   rw [hO];rfl
  ·refine (gY (aH hb) _ _ _ _).trans ?_
   simp only [ip,ek,ig,dQ,hG,cond_false];rfl
theorem XA {b:Bs}(hb:IsB b)(a e:Int){z0 z1 z2 z3:Int}(hz0:0≤z0∧z0<256)(hz1:0≤z1∧z1<256)(hz2:0≤z2∧z2<256)(hz3:0≤z3∧z3<256)(hl:bU b e=true→lU b e= [bT z0,bT z1,bT z2,bT z3]):VCx prog ah 0 lS [.ptr 0 0] ⟨[aN b a e],[]⟩ λx T'=>x=cY b e∧T'=ip b a e:=by
 obtain ⟨hn0,hn1⟩:=rf hb e
 refine VCx.keepQ 1 0 (le_refl _) (le_refl _) (aj ag ac (Df [bT z0,bT z1,bT z2,bT z3]) ai (Qp b a e z0 z1 z2 z3 _) ?_)
 refine ⟨⟨rfl,hb⟩,⟨rfl,aH hb⟩,?_⟩
 by_cases h1:ar 1 b e=0
 ·refine aO (by rw [cC];exact congrArg Bool.not (decide_eq_true h1)) ?_
  by_cases h2:aw 1 b e≤32
  ·have hG:bU b e=true:=by unfold bU;rw [decide_eq_true h1,decide_eq_true h2];rfl
   have hL:=hl hG
   refine aO (decide_eq_false (by omega)) ?_
   try delta kV kW kX
   rw [JD hn0 hn1]
   refine ⟨⟨⟨rfl,aH hb⟩,hL⟩,⟨rfl,aH (aH hb)⟩,?_⟩
   have eT:∀l:List VO,VT.keep ⟨aN (aC (du (aw 1 b e)) (aC 1 b e) (ar 1 b e)) (bN (du (aw 1 b e)) (aC 1 b e) (ar 1 b e) (bN 1 b e a)) (ar (du (aw 1 b e)) (aC 1 b e) (ar 1 b e))::l,[]⟩ 1 0=ip b a e:=λl=>by
    rw [gY (aH (aH hb))];simp only [ip,ek,ig,dQ,ic,hG,cond_true]
   by_cases h3:ic b e=0
   ·have hO:bp b e=true:=by unfold bp;rw [hG,decide_eq_true h3];rfl
    refine aO (by rw [cC];exact congrArg Bool.not (decide_eq_true h3)) ⟨⟨hn0,h2⟩,?_,eT _⟩
    unfold cY bJ bK
    rw [hO]
    simp only [cond_true]
    refine congrArg (λy=>TV.tup [.agg [.val (.int .u32 (fu y (aw 1 b e))),.val (.int .i64 (aw 1 b e))],.val (.bool true)]) ?_
    rw [hL]
    have ha:=kp z0 z1 z2 z3
    rw [cV (n:=0) (z:=z0) (by omega) (by omega) (by omega) (by omega)]
    rw [cV (n:=(0*256+z0)) (z:=z1) (by omega) (by omega) (by omega) (by omega)]
    rw [cV (n:=((0*256+z0)*256+z1)) (z:=z2) (by omega) (by omega) (by omega) (by omega)]
    rw [cV (n:=(((0*256+z0)*256+z1)*256+z2)) (z:=z3) (by omega) (by omega) (by omega) (by omega)]
    have hw64:wrap .u64 ((((0*256+z0)*256+z1)*256+z2)*256+z3)=((((0*256+z0)*256+z1)*256+z2)*256+z3):=by simp only [wrap,IntKind.bits,signed];simp<;>omega
    have hw32:wrap .u32 ((((0*256+z0)*256+z1)*256+z2)*256+z3)=((((0*256+z0)*256+z1)*256+z2)*256+z3):=by simp only [wrap,IntKind.bits,signed];simp<;>omega
    rw [ha.1]
    first | rw [hw64,hw32] | rw [hw32] | skip
    omega
   ·have hO:bp b e=false:=by unfold bp;rw [hG,decide_eq_false h3];rfl
    refine aU (by rw [cC];exact congrArg Bool.not (decide_eq_false h3)) ⟨?_,eT _⟩
    unfold cY bJ bK
    rw [hO];rfl
  ·have hG:bU b e=false:=by unfold bU;rw [decide_eq_false h2,Bool.and_false]
   have hO:bp b e=false:=by unfold bp;rw [hG];rfl
   refine aU (decide_eq_true (by omega)) ⟨?_,?_⟩
   ·unfold cY bJ bK
    rw [hO];rfl
   ·refine (gY (aH hb) _ _ _ _).trans ?_
    simp only [ip,ek,ig,dQ,hG,cond_false];rfl
 ·have hG:bU b e=false:=by unfold bU;rw [decide_eq_false h1,Bool.false_and]
  have hO:bp b e=false:=by unfold bp;rw [hG];rfl
  refine aU (by rw [cC];exact congrArg Bool.not (decide_eq_false h1)) ⟨?_,?_⟩
  ·unfold cY bJ bK
   rw [hO];rfl
  ·refine (gY (aH hb) _ _ _ _).trans ?_
   simp only [ip,ek,ig,dQ,hG,cond_false];rfl
theorem Ti {B:Bs}(hB:IsB B){n:Int}(hn:bq B n)(e:Int)(hl:bU (aa B n) e=true→lU (aa B n) e= []):VCx prog ah 0 lT [.ptr 0 0] ⟨[bf B n e],[]⟩ λx T'=>x=cY (aa B n) e∧T'=iq B n e:=by
 have hb:=dy hB n
 obtain ⟨hn0,hn1⟩:=rf hb e
 refine VCx.keepQ 1 0 (le_refl _) (le_refl _) (aj ag ac (Dg []) ai (Qi B n e _) ?_)
 refine ⟨⟨rfl,hB,hn⟩,?_⟩
 have hr1:aa B (aX 1 B n e)=aC 1 (aa B n) e:=cm hn 1 e
 have hn2:=bF hn 1 e
 by_cases h1:ar 1 (aa B n) e=0
 ·refine aO (by rw [cC];exact congrArg Bool.not (decide_eq_true h1)) ?_
  by_cases h2:aw 1 (aa B n) e≤32
  ·have hG:bU (aa B n) e=true:=by unfold bU;rw [decide_eq_true h1,decide_eq_true h2];rfl
   have hL:=hl hG
   refine aO (decide_eq_false (by omega)) ?_
   try delta kY kZ
   rw [De hn0 hn1]
   refine ⟨⟨⟨rfl,hB,hn2⟩,(congrArg (λy=>bv (du (aw 1 (aa B n) e)) y (ar 1 (aa B n) e)) hr1).trans hL⟩,?_⟩
   have eF:ar (du (aw 1 (aa B n) e)) (aa B (aX (1:Nat) B n e)) (ar (1:Nat) (aa B n) e)=ic (aa B n) e:=(congrArg (λy=>ar (du (aw 1 (aa B n) e)) y (ar 1 (aa B n) e)) hr1)
   rw [eF]
   have eT:∀l:List VO,VT.keep ⟨bf B (aX (du (aw 1 (aa B n) e)) B (aX 1 B n e) (ar 1 (aa B n) e)) (ic (aa B n) e)::l,[]⟩ 1 0=iq B n e:=λl=>by
    rw [iF hB];simp only [iq,fX,dQ,hG,cond_true]
   by_cases h3:ic (aa B n) e=0
   ·have hO:bp (aa B n) e=true:=by unfold bp;rw [hG,decide_eq_true h3];rfl
    refine aO (by rw [cC];exact congrArg Bool.not (decide_eq_true h3)) ⟨⟨hn0,h2⟩,?_,eT _⟩
    unfold cY bJ bK
    rw [hO]
    simp only [cond_true]
    refine congrArg (λy=>TV.tup [.agg [.val (.int .u32 (fu y (aw 1 (aa B n) e))),.val (.int .i64 (aw 1 (aa B n) e))],.val (.bool true)]) ?_
    rw [hL]
    have ha:=kp 0 0 0 0
    rw [ha.2.2.2.2]
   ·have hO:bp (aa B n) e=false:=by unfold bp;rw [hG,decide_eq_false h3];rfl
    refine aU (by rw [cC];exact congrArg Bool.not (decide_eq_false h3)) ⟨?_,eT _⟩
    unfold cY bJ bK
    rw [hO];rfl
  ·have hG:bU (aa B n) e=false:=by unfold bU;rw [decide_eq_false h2,Bool.and_false]
   have hO:bp (aa B n) e=false:=by unfold bp;rw [hG];rfl
   refine aU (decide_eq_true (by omega)) ⟨?_,?_⟩
   ·unfold cY bJ bK
    rw [hO];rfl
   ·refine (iF hB _ _ _ _).trans ?_
    simp only [iq,fX,dQ,hG,cond_false];rfl
 ·have hG:bU (aa B n) e=false:=by unfold bU;rw [decide_eq_false h1,Bool.false_and]
  have hO:bp (aa B n) e=false:=by unfold bp;rw [hG];rfl
  refine aU (by rw [cC];exact congrArg Bool.not (decide_eq_false h1)) ⟨?_,?_⟩
  ·unfold cY bJ bK
   rw [hO];rfl
  ·refine (iF hB _ _ _ _).trans ?_
   simp only [iq,fX,dQ,hG,cond_false];rfl
theorem XB {B:Bs}(hB:IsB B){n:Int}(hn:bq B n)(e:Int){z0:Int}(hz0:0≤z0∧z0<256)(hl:bU (aa B n) e=true→lU (aa B n) e= [bT z0]):VCx prog ah 0 lT [.ptr 0 0] ⟨[bf B n e],[]⟩ λx T'=>x=cY (aa B n) e∧T'=iq B n e:=by
 have hb:=dy hB n
 obtain ⟨hn0,hn1⟩:=rf hb e
 refine VCx.keepQ 1 0 (le_refl _) (le_refl _) (aj ag ac (Dg [bT z0]) ai (Qk B n e z0 _) ?_)
 refine ⟨⟨rfl,hB,hn⟩,?_⟩
 have hr1:aa B (aX 1 B n e)=aC 1 (aa B n) e:=cm hn 1 e
 have hn2:=bF hn 1 e
 by_cases h1:ar 1 (aa B n) e=0
 ·refine aO (by rw [cC];exact congrArg Bool.not (decide_eq_true h1)) ?_
  by_cases h2:aw 1 (aa B n) e≤32
  ·have hG:bU (aa B n) e=true:=by unfold bU;rw [decide_eq_true h1,decide_eq_true h2];rfl
   have hL:=hl hG
   refine aO (decide_eq_false (by omega)) ?_
   try delta kY kZ MX
   rw [De hn0 hn1]
   refine ⟨⟨⟨rfl,hB,hn2⟩,(congrArg (λy=>bv (du (aw 1 (aa B n) e)) y (ar 1 (aa B n) e)) hr1).trans hL⟩,?_⟩
   have eF:ar (du (aw 1 (aa B n) e)) (aa B (aX (1:Nat) B n e)) (ar (1:Nat) (aa B n) e)=ic (aa B n) e:=(congrArg (λy=>ar (du (aw 1 (aa B n) e)) y (ar 1 (aa B n) e)) hr1)
   rw [eF]
   have eT:∀l:List VO,VT.keep ⟨bf B (aX (du (aw 1 (aa B n) e)) B (aX 1 B n e) (ar 1 (aa B n) e)) (ic (aa B n) e)::l,[]⟩ 1 0=iq B n e:=λl=>by
    rw [iF hB];simp only [iq,fX,dQ,hG,cond_true]
   by_cases h3:ic (aa B n) e=0
   ·have hO:bp (aa B n) e=true:=by unfold bp;rw [hG,decide_eq_true h3];rfl
    refine aO (by rw [cC];exact congrArg Bool.not (decide_eq_true h3)) ⟨⟨hn0,h2⟩,?_,eT _⟩
    unfold cY bJ bK
    rw [hO]
    simp only [cond_true]
    refine congrArg (λy=>TV.tup [.agg [.val (.int .u32 (fu y (aw 1 (aa B n) e))),.val (.int .i64 (aw 1 (aa B n) e))],.val (.bool true)]) ?_
    rw [hL]
    have ha:=kp z0 0 0 0
    rw [ha.2.2.2.1]
    refine Eq.trans (b:=wo (0) z0 24) (by kernel_rfl) ?_
    rw [show wo (0) z0 24=(0)*2^(24+8)+z0*2^24 from (congrArg (λy=>wo y z0 24) (show 0=(0)*2^(24+8) by omega)).trans (iZ 24 (by omega) (by omega) (by omega) (by omega) (by omega))]
    omega
   ·have hO:bp (aa B n) e=false:=by unfold bp;rw [hG,decide_eq_false h3];rfl
    refine aU (by rw [cC];exact congrArg Bool.not (decide_eq_false h3)) ⟨?_,eT _⟩
    unfold cY bJ bK
    rw [hO];rfl
  ·have hG:bU (aa B n) e=false:=by unfold bU;rw [decide_eq_false h2,Bool.and_false]
   have hO:bp (aa B n) e=false:=by unfold bp;rw [hG];rfl
   refine aU (decide_eq_true (by omega)) ⟨?_,?_⟩
   ·unfold cY bJ bK
    rw [hO];rfl
   ·refine (iF hB _ _ _ _).trans ?_
    simp only [iq,fX,dQ,hG,cond_false];rfl
 ·have hG:bU (aa B n) e=false:=by unfold bU;rw [decide_eq_false h1,Bool.false_and]
  have hO:bp (aa B n) e=false:=by unfold bp;rw [hG];rfl
  refine aU (by rw [cC];exact congrArg Bool.not (decide_eq_false h1)) ⟨?_,?_⟩
  ·unfold cY bJ bK
   rw [hO];rfl
  ·refine (iF hB _ _ _ _).trans ?_
   simp only [iq,fX,dQ,hG,cond_false];rfl
theorem XC {B:Bs}(hB:IsB B){n:Int}(hn:bq B n)(e:Int){z0 z1:Int}(hz0:0≤z0∧z0<256)(hz1:0≤z1∧z1<256)(hl:bU (aa B n) e=true→lU (aa B n) e= [bT z0,bT z1]):VCx prog ah 0 lT [.ptr 0 0] ⟨[bf B n e],[]⟩ λx T'=>x=cY (aa B n) e∧T'=iq B n e:=by
 have hb:=dy hB n
 obtain ⟨hn0,hn1⟩:=rf hb e
 refine VCx.keepQ 1 0 (le_refl _) (le_refl _) (aj ag ac (Dg [bT z0,bT z1]) ai (Qm B n e z0 z1 _) ?_)
 refine ⟨⟨rfl,hB,hn⟩,?_⟩
 have hr1:aa B (aX 1 B n e)=aC 1 (aa B n) e:=cm hn 1 e
 have hn2:=bF hn 1 e
 by_cases h1:ar 1 (aa B n) e=0
 ·refine aO (by rw [cC];exact congrArg Bool.not (decide_eq_true h1)) ?_
  by_cases h2:aw 1 (aa B n) e≤32
  ·have hG:bU (aa B n) e=true:=by unfold bU;rw [decide_eq_true h1,decide_eq_true h2];rfl
   have hL:=hl hG
   refine aO (decide_eq_false (by omega)) ?_
   try delta kY kZ MY
   rw [De hn0 hn1]
   refine ⟨⟨⟨rfl,hB,hn2⟩,(congrArg (λy=>bv (du (aw 1 (aa B n) e)) y (ar 1 (aa B n) e)) hr1).trans hL⟩,?_⟩
   have eF:ar (du (aw 1 (aa B n) e)) (aa B (aX (1:Nat) B n e)) (ar (1:Nat) (aa B n) e)=ic (aa B n) e:=(congrArg (λy=>ar (du (aw 1 (aa B n) e)) y (ar 1 (aa B n) e)) hr1)
   rw [eF]
   have eT:∀l:List VO,VT.keep ⟨bf B (aX (du (aw 1 (aa B n) e)) B (aX 1 B n e) (ar 1 (aa B n) e)) (ic (aa B n) e)::l,[]⟩ 1 0=iq B n e:=λl=>by
    rw [iF hB];simp only [iq,fX,dQ,hG,cond_true]
   by_cases h3:ic (aa B n) e=0
   ·have hO:bp (aa B n) e=true:=by unfold bp;rw [hG,decide_eq_true h3];rfl
    refine aO (by rw [cC];exact congrArg Bool.not (decide_eq_true h3)) ⟨⟨hn0,h2⟩,?_,eT _⟩
    unfold cY bJ bK
    rw [hO]
    simp only [cond_true]
    refine congrArg (λy=>TV.tup [.agg [.val (.int .u32 (fu y (aw 1 (aa B n) e))),.val (.int .i64 (aw 1 (aa B n) e))],.val (.bool true)]) ?_
    rw [hL]
    have ha:=kp z0 z1 0 0
    rw [ha.2.2.1]
    refine Eq.trans (b:=wo (wo (0) z0 24) z1 16) (by kernel_rfl) ?_
    rw [show wo (0) z0 24=(0)*2^(24+8)+z0*2^24 from (congrArg (λy=>wo y z0 24) (show 0=(0)*2^(24+8) by omega)).trans (iZ 24 (by omega) (by omega) (by omega) (by omega) (by omega))]
    rw [show wo ((0)*2^(24+8)+z0*2^24) z1 16=(z0)*2^(16+8)+z1*2^16 from (congrArg (λy=>wo y z1 16) (show (0)*2^(24+8)+z0*2^24=(z0)*2^(16+8) by omega)).trans (iZ 16 (by omega) (by omega) (by omega) (by omega) (by omega))]
    omega
   ·have hO:bp (aa B n) e=false:=by unfold bp;rw [hG,decide_eq_false h3];rfl
    refine aU (by rw [cC];exact congrArg Bool.not (decide_eq_false h3)) ⟨?_,eT _⟩
    unfold cY bJ bK
    rw [hO];rfl
  ·have hG:bU (aa B n) e=false:=by unfold bU;rw [decide_eq_false h2,Bool.and_false]
   have hO:bp (aa B n) e=false:=by unfold bp;rw [hG];rfl
   refine aU (decide_eq_true (by omega)) ⟨?_,?_⟩
   ·unfold cY bJ bK
    rw [hO];rfl
   ·refine (iF hB _ _ _ _).trans ?_
    simp only [iq,fX,dQ,hG,cond_false];rfl
 ·have hG:bU (aa B n) e=false:=by unfold bU;rw [decide_eq_false h1,Bool.false_and]
  have hO:bp (aa B n) e=false:=by unfold bp;rw [hG];rfl
  refine aU (by rw [cC];exact congrArg Bool.not (decide_eq_false h1)) ⟨?_,?_⟩
  ·unfold cY bJ bK
   rw [hO];rfl
  ·refine (iF hB _ _ _ _).trans ?_
   simp only [iq,fX,dQ,hG,cond_false];rfl
theorem XD {B:Bs}(hB:IsB B){n:Int}(hn:bq B n)(e:Int){z0 z1 z2:Int}(hz0:0≤z0∧z0<256)(hz1:0≤z1∧z1<256)(hz2:0≤z2∧z2<256)(hl:bU (aa B n) e=true→lU (aa B n) e= [bT z0,bT z1,bT z2]):VCx prog ah 0 lT [.ptr 0 0] ⟨[bf B n e],[]⟩ λx T'=>x=cY (aa B n) e∧T'=iq B n e:=by
 have hb:=dy hB n
 obtain ⟨hn0,hn1⟩:=rf hb e
 refine VCx.keepQ 1 0 (le_refl _) (le_refl _) (aj ag ac (Dg [bT z0,bT z1,bT z2]) ai (Qo B n e z0 z1 z2 _) ?_)
 refine ⟨⟨rfl,hB,hn⟩,?_⟩
 have hr1:aa B (aX 1 B n e)=aC 1 (aa B n) e:=cm hn 1 e
 have hn2:=bF hn 1 e
 by_cases h1:ar 1 (aa B n) e=0
 ·refine aO (by rw [cC];exact congrArg Bool.not (decide_eq_true h1)) ?_
  by_cases h2:aw 1 (aa B n) e≤32
  ·have hG:bU (aa B n) e=true:=by unfold bU;rw [decide_eq_true h1,decide_eq_true h2];rfl
   have hL:=hl hG
   refine aO (decide_eq_false (by omega)) ?_
   try delta HY kY kZ
   rw [De hn0 hn1]
   refine ⟨⟨⟨rfl,hB,hn2⟩,(congrArg (λy=>bv (du (aw 1 (aa B n) e)) y (ar 1 (aa B n) e)) hr1).trans hL⟩,?_⟩
   have eF:ar (du (aw 1 (aa B n) e)) (aa B (aX (1:Nat) B n e)) (ar (1:Nat) (aa B n) e)=ic (aa B n) e:=(congrArg (λy=>ar (du (aw 1 (aa B n) e)) y (ar 1 (aa B n) e)) hr1)
   rw [eF]
   have eT:∀l:List VO,VT.keep ⟨bf B (aX (du (aw 1 (aa B n) e)) B (aX 1 B n e) (ar 1 (aa B n) e)) (ic (aa B n) e)::l,[]⟩ 1 0=iq B n e:=λl=>by
    rw [iF hB];simp only [iq,fX,dQ,hG,cond_true]
   by_cases h3:ic (aa B n) e=0
   ·have hO:bp (aa B n) e=true:=by unfold bp;rw [hG,decide_eq_true h3];rfl
    refine aO (by rw [cC];exact congrArg Bool.not (decide_eq_true h3)) ⟨⟨hn0,h2⟩,?_,eT _⟩
    unfold cY bJ bK
    rw [hO]
    simp only [cond_true]
    refine congrArg (λy=>TV.tup [.agg [.val (.int .u32 (fu y (aw 1 (aa B n) e))),.val (.int .i64 (aw 1 (aa B n) e))],.val (.bool true)]) ?_
    rw [hL]
    have ha:=kp z0 z1 z2 0
    rw [ha.2.1]
    refine Eq.trans (b:=wo (wo (wo (0) z0 24) z1 16) z2 8) (by kernel_rfl) ?_
    rw [show wo (0) z0 24=(0)*2^(24+8)+z0*2^24 from (congrArg (λy=>wo y z0 24) (show 0=(0)*2^(24+8) by omega)).trans (iZ 24 (by omega) (by omega) (by omega) (by omega) (by omega))]
    rw [show wo ((0)*2^(24+8)+z0*2^24) z1 16=(z0)*2^(16+8)+z1*2^16 from (congrArg (λy=>wo y z1 16) (show (0)*2^(24+8)+z0*2^24=(z0)*2^(16+8) by omega)).trans (iZ 16 (by omega) (by omega) (by omega) (by omega) (by omega))]
    rw [show wo ((z0)*2^(16+8)+z1*2^16) z2 8=((z0)*256+z1)*2^(8+8)+z2*2^8 from (congrArg (λy=>wo y z2 8) (show (z0)*2^(16+8)+z1*2^16=((z0)*256+z1)*2^(8+8) by omega)).trans (iZ 8 (by omega) (by omega) (by omega) (by omega) (by omega))]
    omega
   ·have hO:bp (aa B n) e=false:=by unfold bp;rw [hG,decide_eq_false h3];rfl
    refine aU (by rw [cC];exact congrArg Bool.not (decide_eq_false h3)) ⟨?_,eT _⟩
    unfold cY bJ bK
    rw [hO];rfl
  ·have hG:bU (aa B n) e=false:=by unfold bU;rw [decide_eq_false h2,Bool.and_false]
   have hO:bp (aa B n) e=false:=by unfold bp;rw [hG];rfl
   refine aU (decide_eq_true (by omega)) ⟨?_,?_⟩
   ·unfold cY bJ bK
    rw [hO];rfl
   ·refine (iF hB _ _ _ _).trans ?_
    simp only [iq,fX,dQ,hG,cond_false];rfl
 ·have hG:bU (aa B n) e=false:=by unfold bU;rw [decide_eq_false h1,Bool.false_and]
  have hO:bp (aa B n) e=false:=by unfold bp;rw [hG];rfl
  refine aU (by rw [cC];exact congrArg Bool.not (decide_eq_false h1)) ⟨?_,?_⟩
  ·unfold cY bJ bK
   rw [hO];rfl
  ·refine (iF hB _ _ _ _).trans ?_
   simp only [iq,fX,dQ,hG,cond_false];rfl
theorem XE {B:Bs}(hB:IsB B){n:Int}(hn:bq B n)(e:Int){z0 z1 z2 z3:Int}(hz0:0≤z0∧z0<256)(hz1:0≤z1∧z1<256)(hz2:0≤z2∧z2<256)(hz3:0≤z3∧z3<256)(hl:bU (aa B n) e=true→lU (aa B n) e= [bT z0,bT z1,bT z2,bT z3]):VCx prog ah 0 lT [.ptr 0 0] ⟨[bf B n e],[]⟩ λx T'=>x=cY (aa B n) e∧T'=iq B n e:=by
 have hb:=dy hB n
 obtain ⟨hn0,hn1⟩:=rf hb e
 refine VCx.keepQ 1 0 (le_refl _) (le_refl _) (aj ag ac (Dg [bT z0,bT z1,bT z2,bT z3]) ai (Qq B n e z0 z1 z2 z3 _) ?_)
 refine ⟨⟨rfl,hB,hn⟩,?_⟩
 have hr1:aa B (aX 1 B n e)=aC 1 (aa B n) e:=cm hn 1 e
 have hn2:=bF hn 1 e
 by_cases h1:ar 1 (aa B n) e=0
 ·refine aO (by rw [cC];exact congrArg Bool.not (decide_eq_true h1)) ?_
  by_cases h2:aw 1 (aa B n) e≤32
  ·have hG:bU (aa B n) e=true:=by unfold bU;rw [decide_eq_true h1,decide_eq_true h2];rfl
   have hL:=hl hG
   refine aO (decide_eq_false (by omega)) ?_
   try delta HZ kY kZ
   rw [De hn0 hn1]
   refine ⟨⟨⟨rfl,hB,hn2⟩,(congrArg (λy=>bv (du (aw 1 (aa B n) e)) y (ar 1 (aa B n) e)) hr1).trans hL⟩,?_⟩
   have eF:ar (du (aw 1 (aa B n) e)) (aa B (aX (1:Nat) B n e)) (ar (1:Nat) (aa B n) e)=ic (aa B n) e:=(congrArg (λy=>ar (du (aw 1 (aa B n) e)) y (ar 1 (aa B n) e)) hr1)
   rw [eF]
   have eT:∀l:List VO,VT.keep ⟨bf B (aX (du (aw 1 (aa B n) e)) B (aX 1 B n e) (ar 1 (aa B n) e)) (ic (aa B n) e)::l,[]⟩ 1 0=iq B n e:=λl=>by
    rw [iF hB];simp only [iq,fX,dQ,hG,cond_true]
   by_cases h3:ic (aa B n) e=0
   ·have hO:bp (aa B n) e=true:=by unfold bp;rw [hG,decide_eq_true h3];rfl
    refine aO (by rw [cC];exact congrArg Bool.not (decide_eq_true h3)) ⟨⟨hn0,h2⟩,?_,eT _⟩
    unfold cY bJ bK
    rw [hO]
    simp only [cond_true]
    refine congrArg (λy=>TV.tup [.agg [.val (.int .u32 (fu y (aw 1 (aa B n) e))),.val (.int .i64 (aw 1 (aa B n) e))],.val (.bool true)]) ?_
    rw [hL]
    have ha:=kp z0 z1 z2 z3
    rw [ha.1]
    refine Eq.trans (b:=wo (wo (wo (wo (0) z0 24) z1 16) z2 8) z3 0) (by kernel_rfl) ?_
    rw [show wo (0) z0 24=(0)*2^(24+8)+z0*2^24 from (congrArg (λy=>wo y z0 24) (show 0=(0)*2^(24+8) by omega)).trans (iZ 24 (by omega) (by omega) (by omega) (by omega) (by omega))]
    rw [show wo ((0)*2^(24+8)+z0*2^24) z1 16=(z0)*2^(16+8)+z1*2^16 from (congrArg (λy=>wo y z1 16) (show (0)*2^(24+8)+z0*2^24=(z0)*2^(16+8) by omega)).trans (iZ 16 (by omega) (by omega) (by omega) (by omega) (by omega))]
    rw [show wo ((z0)*2^(16+8)+z1*2^16) z2 8=((z0)*256+z1)*2^(8+8)+z2*2^8 from (congrArg (λy=>wo y z2 8) (show (z0)*2^(16+8)+z1*2^16=((z0)*256+z1)*2^(8+8) by omega)).trans (iZ 8 (by omega) (by omega) (by omega) (by omega) (by omega))]
    rw [show wo (((z0)*256+z1)*2^(8+8)+z2*2^8) z3 0=(((z0)*256+z1)*256+z2)*2^(0+8)+z3*2^0 from (congrArg (λy=>wo y z3 0) (show ((z0)*256+z1)*2^(8+8)+z2*2^8=(((z0)*256+z1)*256+z2)*2^(0+8) by omega)).trans (iZ 0 (by omega) (by omega) (by omega) (by omega) (by omega))]
    omega
   ·have hO:bp (aa B n) e=false:=by unfold bp;rw [hG,decide_eq_false h3];rfl
    refine aU (by rw [cC];exact congrArg Bool.not (decide_eq_false h3)) ⟨?_,eT _⟩
    unfold cY bJ bK
    rw [hO];rfl
  ·have hG:bU (aa B n) e=false:=by unfold bU;rw [decide_eq_false h2,Bool.and_false]
   have hO:bp (aa B n) e=false:=by unfold bp;rw [hG];rfl
   refine aU (decide_eq_true (by omega)) ⟨?_,?_⟩
   ·unfold cY bJ bK
    rw [hO];rfl
   ·refine (iF hB _ _ _ _).trans ?_
    simp only [iq,fX,dQ,hG,cond_false];rfl
 ·have hG:bU (aa B n) e=false:=by unfold bU;rw [decide_eq_false h1,Bool.false_and]
  have hO:bp (aa B n) e=false:=by unfold bp;rw [hG];rfl
  refine aU (by rw [cC];exact congrArg Bool.not (decide_eq_false h1)) ⟨?_,?_⟩
  ·unfold cY bJ bK
   rw [hO];rfl
  ·refine (iF hB _ _ _ _).trans ?_
   simp only [iq,fX,dQ,hG,cond_false];rfl
theorem AO {b:Bs}(hb:IsB b)(e:Int):bU b e=false∨lU b e= []∨(∃z0,(0≤z0∧z0<256)∧lU b e= [bT z0])∨(∃z0 z1,(0≤z0∧z0<256)∧(0≤z1∧z1<256)∧lU b e= [bT z0,bT z1])∨(∃z0 z1 z2,(0≤z0∧z0<256)∧(0≤z1∧z1<256)∧(0≤z2∧z2<256)∧lU b e= [bT z0,bT z1,bT z2])∨
  ∃z0 z1 z2 z3,(0≤z0∧z0<256)∧(0≤z1∧z1<256)∧(0≤z2∧z2<256)∧(0≤z3∧z3<256)∧lU b e= [bT z0,bT z1,bT z2,bT z3]:=by
 obtain ⟨hn0,hn1⟩:=rf hb e
 by_cases hg:bU b e=true
 ·refine .inr ?_
  have h32:aw 1 b e≤32:=by
   simp only [bU,and_eq_true,decide_eq_true_eq] at hg;exact hg.2
  obtain ⟨⟨l,hl,hz⟩,_⟩:IsB (lU b e):=eg (aH hb)
  have hlen:l.length≤4:=by
   have h1:((lU b e).length:Int)=bif cJ (du (aw 1 b e)) (aC 1 b e) (ar 1 b e) then du (aw 1 b e) else 0:=uX
   have h2:du (aw 1 b e)≤4:=by
    unfold du
    have:=Int.tdiv_eq_ediv_of_nonneg (a:=aw 1 b e+7) (b:=8) (by omega)
    omega
   have h3:(lU b e).length=l.length:=by rw [hl];simp [bV]
   cases hc:cJ (du (aw 1 b e)) (aC 1 b e) (ar 1 b e)<;>rw [hc] at h1
   ·simp only [cond_false] at h1;omega
   ·simp only [cond_true] at h1;omega
  rw [hl]
  rcases l with _ | ⟨a,_ | ⟨c,_ | ⟨d,_ | ⟨f,_ | ⟨g,l⟩⟩⟩⟩⟩
  ·exact .inl rfl
  ·exact .inr (.inl ⟨a,hz a (by simp),rfl⟩)
  ·exact .inr (.inr (.inl ⟨a,c,hz a (by simp),hz c (by simp),rfl⟩))
  ·exact .inr (.inr (.inr (.inl ⟨a,c,d,hz a (by simp),hz c (by simp),hz d (by simp),rfl⟩)))
  ·exact .inr (.inr (.inr (.inr ⟨a,c,d,f,hz a (by simp),hz c (by simp),hz d (by simp),hz f (by simp),rfl⟩)))
  ·simp only [length_cons] at hlen;omega
 ·exact .inl (Bool.eq_false_iff.2 hg)
theorem QA {b:Bs}(hb:IsB b)(a e:Int):VCx prog ah 0 lS [.ptr 0 0] ⟨[aN b a e],[]⟩ λx T'=>x=cY b e∧T'=ip b a e:=by
 rcases AO hb e with h | h | ⟨z0,h0,h⟩ | ⟨z0,z1,h0,h1,h⟩ | ⟨z0,z1,z2,h0,h1,h2,h⟩ | ⟨z0,z1,z2,z3,h0,h1,h2,h3,h⟩
 ·exact Th hb a e λhg=>by rw [h] at hg;cases hg
 ·exact Th hb a e λ_=>h
 ·exact Xx hb a e h0 λ_=>h
 ·exact Xy hb a e h0 h1 λ_=>h
 ·exact Xz hb a e h0 h1 h2 λ_=>h
 ·exact XA hb a e h0 h1 h2 h3 λ_=>h
theorem QB {B:Bs}(hB:IsB B){n:Int}(hn:bq B n)(e:Int):VCx prog ah 0 lT [.ptr 0 0] ⟨[bf B n e],[]⟩ λx T'=>x=cY (aa B n) e∧T'=iq B n e:=by
 rcases AO (dy hB n) e with h | h | ⟨z0,h0,h⟩ | ⟨z0,z1,h0,h1,h⟩ | ⟨z0,z1,z2,h0,h1,h2,h⟩ | ⟨z0,z1,z2,z3,h0,h1,h2,h3,h⟩
 ·exact Ti hB hn e λhg=>by rw [h] at hg;cases hg
 ·exact Ti hB hn e λ_=>h
 ·exact XB hB hn e h0 λ_=>h
 ·exact XC hB hn e h0 h1 λ_=>h
 ·exact XD hB hn e h0 h1 h2 λ_=>h
 ·exact XE hB hn e h0 h1 h2 h3 λ_=>h
end Go.Proofs.YtogbdjlelkepcaaGreatDoor