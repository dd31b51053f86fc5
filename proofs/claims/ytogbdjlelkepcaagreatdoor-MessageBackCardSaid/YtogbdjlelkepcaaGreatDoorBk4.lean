/-Part 4 of the proof of messageBackCard_holds:Vat,Vret,Vpw ... No condition. -/
import Derived.Test.YtogbdjlelkepcaaGreatDoorBk1
import Derived.Test.YtogbdjlelkepcaaGreatDoorBk2
import Derived.Test.YtogbdjlelkepcaaGreatDoorBk3
set_option maxRecDepth 100000
namespace Go.Proofs.YtogbdjlelkepcaaGreatDoor
section
open Go.RowKit

section
variable {P:Program} {G:aU}
theorem VCx.at1 {f:FuncId} {ro k:Nat} {ys0 ys1:List TV} {o o1:VO} {T:VT} {K:TV→VT→Prop} {Q:TV→VO→List VO→Prop} (hG:dl G) (hro:ro≤k) (ho:T.objs[k]?=some o) (hl:o.live=true) (hren:o.ren (bb [k]) (bb [])=o1) (hy:ar (bb [k]) (bb []) ys0=ys1)
  (hv:VCx P G 0 f ys1 ⟨[o1], []⟩ fun x T' =>∃o' l',T' =⟨o' ::l', []⟩∧Q x o' l')
  (hk:∀x o' l',Q x o' l' →K (x.ren (bf T.objs.length [k]) (bf T.tails.length [])) ⟨T.objs.set k (o'.ren (bf T.objs.length [k]) (bf T.tails.length []))++l'.map (VO.ren (bf T.objs.length [k]) (bf T.tails.length [])),T.tails⟩):VCx P G ro f ys0 T K:=by
 have hg:T.give [k] []=⟨[o1], []⟩:=by simp only [VT.give,List.map_cons,List.map_nil,ho,Option.getD_some,hren]
 refine (VCx.lift (xs:=ys1) [k] [] hG (by simp) List.nodup_nil (fun j hj=> ?_) (by simp) (fun i hi=> ?_) hy (by rw [hg];exact hv) (fun x T' hq=> ?_)).mono ?_
 ·obtain rfl:=List.mem_singleton.1 hj;exact ⟨_,ho,hl⟩
 ·obtain rfl:=List.mem_singleton.1 hi;exact hro
 ·obtain ⟨o',l',rfl,_⟩:=hq;exact ⟨by simp,Nat.zero_le _⟩
 ·rintro x T' ⟨y,T2,⟨o',l',rfl,hq⟩,rfl,rfl⟩
  simpa [VT.back,cu] using hk y o' l' hq
end
abbrev Bs:=List (List TV)
def bT (z:Int):List TV:= [.val (.int .u8 z)]
def bV (l:List Int):Bs:=l.map bT
def IsB (b:Bs):Prop:=(∃l:List Int,b=bV l∧∀z∈l,0≤z∧z<256)∧b.length≤1000000
def eJ:List TV→Int
 | [.val (.int _ z)]=>z
 | _=>0
theorem IsB.take {b:Bs} (h:IsB b) (n:Nat):IsB (b.take n):=by
 obtain ⟨⟨l,rfl,hl⟩,h2⟩:=h
 exact ⟨⟨l.take n,by simp [bV,List.map_take],fun z hz=>hl z (List.mem_of_mem_take hz)⟩,by rw [List.length_take];omega⟩
theorem IsB.drop {b:Bs} (h:IsB b) (n:Nat):IsB (b.drop n):=by
 obtain ⟨⟨l,rfl,hl⟩,h2⟩:=h
 exact ⟨⟨l.drop n,by simp [bV,List.map_drop],fun z hz=>hl z (List.mem_of_mem_drop hz)⟩,by rw [List.length_drop];omega⟩
theorem IsB.nil:IsB []:=⟨⟨[],rfl,fun _ h=>by simp at h⟩,Nat.zero_le _⟩
theorem mY (f g:Nat→Option Nat):∀l:List Int,bg f g (bV l)=bV l
 | []=>rfl
 | a::l=>by simp only [bV,List.map_cons,bg];rw [show bg f g (l.map bT)=l.map bT from mY f g l];rfl
theorem IsB.ren {b:Bs} (h:IsB b) (f g:Nat→Option Nat):bg f g b=b:=by
 obtain ⟨⟨l,rfl,_⟩,_⟩:=h
 exact mY f g l
theorem IsB.at {b:Bs} (h:IsB b) {j:Nat} {r:List TV} (hr:b[j]?=some r):∃z:Int,r=bT z∧0≤z∧z<256:=by
 obtain ⟨⟨l,rfl,hl⟩,_⟩:=h
 simp only [bV,List.getElem?_map,Option.map_eq_some_iff] at hr
 obtain ⟨z,hz,rfl⟩:=hr
 exact ⟨z,rfl,hl z (List.mem_of_getElem? hz)⟩
theorem IsB.small {b:Bs} (h:IsB b):b.length≤1000000:=h.2
theorem IsB.len1 {b:Bs} (h:IsB b):∀e∈b,e.length=1:=fun e he=>by
 obtain ⟨j,hj,rfl⟩:=List.getElem_of_mem he
 obtain ⟨z,hz,_⟩:=h.at (List.getElem?_eq_getElem hj)
 rw [hz];rfl
def cn (n:Int) (b:Bs) (e:Int):Bool:=decide (e=0)&&decide (0≤n)&&decide (n≤b.length)
def bR (n:Int) (b:Bs) (e:Int):Bs:=bif cn n b e then b.take n.toNat else []
def aA (n:Int) (b:Bs) (e:Int):Bs:=bif cn n b e then b.drop n.toNat else b
def aB (n:Int) (b:Bs) (e:Int):Int:=bif decide (e=0) then (bif decide (n<0) then 2 else bif decide (n≤b.length) then 0 else 3) else e
def bt (n:Int) (b:Bs) (e a:Int):Int:=bif cn n b e then IntKind.i64.wrap (a+n) else a
def eo (b:Bs):Int:=b.foldl (fun n r=>n*256+eJ r) 0
def aL (k:Nat) (b:Bs) (e:Int):Int:=bif cn k b e then eo (b.take k) else 0
theorem gC {n:Int} {b:Bs} {e:Int} (h:IsB b):IsB (bR n b e):=by
 unfold bR;cases cn n b e
 ·exact .nil
 ·exact h.take _
theorem aF {n:Int} {b:Bs} {e:Int} (h:IsB b):IsB (aA n b e):=by
 unfold aA;cases cn n b e
 ·exact h
 ·exact h.drop _
theorem Mi:∀(b:Bs) (r:List TV),eo (b++ [r])=eo b*256+eJ r:=fun b r=>by simp [eo,List.foldl_append]
theorem CH:∀(l:List Int) (n:Int),(∀z∈l,0≤z∧z<256)→0≤n→0≤(bV l).foldl (fun n r=>n*256+eJ r) n∧(bV l).foldl (fun n r=>n*256+eJ r) n<(n+1)*256^l.length
 | [],n,_,h=>by simp only [bV,List.map_nil,List.foldl_nil,List.length_nil,Int.pow_zero];omega
 | z::l,n,hz,h=>by
  obtain ⟨h1,h2⟩:=hz z List.mem_cons_self
  have e:eJ (bT z)=z:=rfl
  obtain ⟨h3,h4⟩:=CH l (n*256+z) (fun x hx=>hz x (List.mem_cons_of_mem _ hx)) (by omega)
  simp only [bV,List.map_cons,List.foldl_cons,e,List.length_cons] at h3 h4 ⊢
  refine ⟨h3,Int.lt_of_lt_of_le h4 ?_⟩
  have hp:(0:Int)≤256^l.length:=Int.pow_nonneg (by decide)
  have:=Int.mul_le_mul_of_nonneg_right (show n*256+z+1≤(n+1)*256 by omega) hp
  rw [Int.pow_succ,Int.mul_comm (256^l.length) 256,←Int.mul_assoc]
  exact this
theorem qY {l:List Int} (h:∀z∈l,0≤z∧z<256):0≤eo (bV l)∧eo (bV l)<256^l.length:=by
 have:=CH l 0 h (Int.le_refl _)
 simpa [eo] using this
def qZ (n:Int):Prop:=0≤n∧n≤8
def q8 (n:Int) (b:Bs):Prop:=n≤b.length
def cj (n:Int) (b:Bs):Int:=eo (b.take n.toNat)
def lR (n:Int) (b:Bs) (e:Int):Int:=bif cn n b e then cj n b else 0
theorem Ar (k:Nat) (b:Bs) (e:Int):aL k b e=lR k b e:=by simp only [aL,lR,cj,Int.toNat_natCast]
theorem sH {n:Int} {b:Bs} {e:Int}:((bR n b e).length:Int)=bif cn n b e then n else 0:=by
 unfold bR
 cases h:cn n b e
 ·rfl
 ·simp only [cn,Bool.and_eq_true,decide_eq_true_eq] at h
  simp only [cond_true,List.length_take];omega
theorem OD {n:Int} {b:Bs} {e:Int} (h0:0≤n) (h:n≤(bR n b e).length):cj n (bR n b e)=lR n b e:=by
 unfold lR
 rw [sH] at h
 cases hc:cn n b e
 ·rw [hc] at h
  obtain rfl:n=0:=by simp only [cond_false] at h;omega
  rfl
 ·simp only [cj,bR,hc,cond_true,List.take_take,Nat.min_self]
theorem OE {n:Int} {b:Bs} {e:Int} (h:((bR n b e).length:Int)<n):lR n b e=0:=by
 unfold lR
 rw [sH] at h
 cases hc:cn n b e
 ·rfl
 ·rw [hc] at h;simp only [cond_true] at h;omega
theorem As {n:Nat} {b:Bs} (h:IsB b) (e:Int):0≤lR n b e∧lR n b e<256^n:=by
 have hp:(0:Int)<256^n:=Int.pow_pos (by decide)
 unfold lR
 cases hc:cn n b e
 ·exact ⟨Int.le_refl _,hp⟩
 ·obtain ⟨⟨l,hl,hz⟩,_⟩:=h.take n
  simp only [cond_true,cj,Int.toNat_natCast]
  have hlen:l.length=n:=by
   have:=congrArg List.length hl
   simp only [cn,Bool.and_eq_true,decide_eq_true_eq] at hc
   simp only [bV,List.length_map,List.length_take] at this
   omega
  rw [hl]
  have:=qY hz
  rwa [hlen] at this
theorem cp {n z:Int} (h0:0≤n) (hn:n<72057594037927936) (hz:0≤z) (hz2:z<256):IntKind.wrap .u64 ((BitVec.toNat (BitVec.ofInt (IntKind.bits .u64) (IntKind.wrap .u64 (n*(2:Int)^min (Int.toNat (8:Int)) (IntKind.bits .u64))) ||| BitVec.ofInt (IntKind.bits .u64) (IntKind.wrap .u64 z)):Nat):Int)=n*256+z:=by
 obtain ⟨a,rfl⟩:=Int.eq_ofNat_of_zero_le h0
 obtain ⟨c,rfl⟩:=Int.eq_ofNat_of_zero_le hz
 have e1:IntKind.wrap .u64 ((a:Int)*(2:Int)^min (Int.toNat (8:Int)) (IntKind.bits .u64))=((a*256:Nat):Int):=by
  simp only [IntKind.wrap,IntKind.bits,IntKind.signed];simp;omega
 have e2:IntKind.wrap .u64 (c:Int)=(c:Int):=by simp only [IntKind.wrap,IntKind.bits,IntKind.signed];simp;omega
 rw [e1,e2]
 have e3:(BitVec.ofInt (IntKind.bits .u64) ((a*256:Nat):Int) ||| BitVec.ofInt (IntKind.bits .u64) (c:Int)).toNat=a*256+c:=by
  rw [BitVec.toNat_or]
  simp only [IntKind.bits,BitVec.ofInt_natCast,BitVec.toNat_ofNat]
  rw [Nat.mod_eq_of_lt (by omega),Nat.mod_eq_of_lt (by omega),show a*256=2^8*a by omega,Nat.two_pow_add_eq_or_of_lt (by omega:c<2^8)]
 rw [e3]
 simp only [IntKind.wrap,IntKind.bits,IntKind.signed];simp;omega
theorem VCx.asVec {P:Program} {G:aU} {f:FuncId} {xs:List TV} {T:VT} {size:Nat} {es:List (List TV)} {Q:VT→Prop} (h:VCx P G 0 f xs T fun x T' =>((x= .val (.slice none 0 0)∧es= [])∨∃tok,x= .vec size es tok)∧Q T'):VCx P G 0 f xs T fun x T' =>x= .vec size es .none∧Q T' :=by
 intro g w us rw0 hG hx
 refine Calls.mono (h g w us rw0 hG hx) ?_
 rintro e w' ⟨v,x,g',T',he,⟨hq,hQ⟩,e',r',hv,hfx⟩
 refine ⟨v,_,g',T',he,⟨rfl,hQ⟩,e',r', ?_,hfx⟩
 rcases hq with ⟨rfl,rfl⟩ | ⟨tok,rfl⟩
 ·obtain rfl:=hv.val_inv
  exact .nil trivial
 ·exact mg hv
def aE (b:Bs) (a e:Int):VO:= .cells [.val (.bool true), .vec 1 b .none, .val (.int .i64 a), .val (.int .i64 e)]
theorem bC {b:Bs} (h:IsB b) (a e:Int) (f g:Nat→Option Nat):(aE b a e).ren f g=aE b a e:=by
 simp only [aE,VO.ren,ar,TV.ren,h.ren,Tok.ren]
def kB (kind:IntKind) (n:Nat):aV:=fun ro ys T K=>match ys with
 | [.ptr k 0]=>match T.objs[k]? with
  | some (.cells [.val (.bool true), .vec 1 b .none, .val (.int .i64 a), .val (.int .i64 e)])=>(Nat.ble ro k=true∧IsB b)∧K (.val (.int kind (aL n b e))) {T with objs:=T.objs.set k (aE (aA n b e) (bt n b e a) (aB n b e))}
  | _=>False
 | _=>False
section
variable {P:Program} {G:aU}
theorem OF (hG:dl G) {f:FuncId} {kind:IntKind} {n:Nat} (h:∀b a e,IsB b→VCx P G 0 f [.ptr 0 0] ⟨[aE b a e], []⟩ fun x T' =>x= .val (.int kind (aL n b e))∧T' =⟨[aE (aA n b e) (bt n b e a) (aB n b e)], []⟩):
  ∀ro ys T K,kB kind n ro ys T K→VCx P G ro f ys T K:=by
 intro ro ys T K hw
 unfold kB at hw
 split at hw
 ·rename_i k
  split at hw
  ·rename_i b a e ho
   obtain ⟨⟨hro,hb⟩,hk⟩:=hw
   refine VCx.at1 (Q:=fun x o' l' =>x= .val (.int kind (aL n b e))∧o' =aE (aA n b e) (bt n b e a) (aB n b e)∧l' = []) hG (Nat.le_of_ble_eq_true hro) ho rfl (bC hb a e _ _) (ys1:= [.ptr 0 0]) (by simp [ar,TV.ren,bb]) ((h b a e hb).mono fun x T' ⟨h1,h2⟩=>⟨_,_,h2,h1,rfl,rfl⟩) ?_
   rintro x o' l' ⟨rfl,rfl,rfl⟩
   rw [bC (aF hb)]
   simpa [TV.ren] using hk
  ·exact hw.elim
 ·exact hw.elim
end
end
section
open Go.RowKit

section
variable {P:Program} {G:aU}
theorem ki (vs:List Value):(vs.map fun v=> [TV.val v]).flatten=vs.map .val:=by
 induction vs with
 | nil=>rfl
 | cons a l ih=>simp [ih]
theorem VCx.ofRetsT {f:FuncId} {xs:List TV} {us:List Value} (hxs:xs.map df=us.map some) {ty:TypeId} {vs:List Value} (h1:∀v∈vs,v.oneCell' =true) (hm:vs.length≤maxLen)
    (h:∀w,Calls P f us.toArray w (Rets w fun v w' =>w'.ownsRow w.heap.size ty 1 v vs.length vs)):VCx P G 0 f xs ⟨[], []⟩ fun x T' =>x= .vec 1 (vs.map fun v=> [.val v]) .none∧T' =⟨[], []⟩:=by
  intro g w us' r hG hx
  obtain rfl:us' =us:=xV hxs hx
  refine (h w).mono ?_
  rintro e w' ⟨v,rfl,gr,hl,hown⟩
  have r1:=r.gr gr
  have e1:=Evo.of_gr r gr
  rcases hown with ⟨rfl,h0⟩ | ⟨b,cap,cur,rfl,hb,hg,hnc,hcm,hcs,htk⟩
  · have:vs= []:=List.eq_nil_of_length_eq_zero (by omega)
    subst this
    exact ⟨_,_,g,_,rfl,⟨rfl,rfl⟩,e1,r1, .nil trivial,⟨by simp,fun i hi=>absurd hi (Nat.not_lt_zero i),fun i o b hi=>absurd hi (Nat.not_lt_zero i)⟩⟩
  · have hnf:¬g.fr b:=fun hf=>by have:=r.fr b hf;omega
    have hcell:∀(j:Nat) u,vs[j]?=some u→w'.cell? ⟨b,0+j,none⟩=some u:=fun j u hu=>by
      have hj:=(List.getElem?_eq_some_iff.1 hu).1
      unfold World.cell?
      simp only [hg,Nat.zero_add]
      rw [←htk,List.getElem?_take,if_pos (by omega)] at hu
      simpa using hu
    refine ⟨_,_,g.addSt b (fun o=>o<vs.length),_,rfl,⟨rfl,rfl⟩,e1.trans (Evo.addSt hnf),r1.addSt hnf (fun id o h=>by simp at h) (fun k x o hx=>by rw [r1.tout k (Nat.zero_le _)] at hx;cases hx) (fun o ho=> ?_), ?_,⟨by simp,fun i hi=>absurd hi (Nat.not_lt_zero i),fun i o b hi=>absurd hi (Nat.not_lt_zero i)⟩⟩
    · have:=hcell o _ (List.getElem?_eq_getElem ho)
      rw [Nat.zero_add] at this
      rw [this];rfl
    · refine .mk_vec (us:=vs) (by simp) (by simpa using hnc) hcm (fun e he=>by obtain ⟨v,_,rfl⟩:=List.mem_map.1 he;rfl) trivial (by rw [ki];exact VRs.vals _ _ _) (fun j hj=> .inr ⟨rfl, ?_⟩) hcell h1
      rw [ki] at hj
      simpa using hj
end
end
section
open Go.RowKit

section
variable {P:Program} {G:aU}
theorem VCx.ofOwn {f:FuncId} {xs:List TV} {ty:TypeId} {vs:List Value} (h1:∀v∈vs,v.oneCell' =true) (hm:vs.length≤maxLen)
    (h:∀g w us,VRs g w xs us→Calls P f us.toArray w (Rets w fun v w' =>w'.ownsRow w.heap.size ty 1 v vs.length vs)):VCx P G 0 f xs ⟨[], []⟩ fun x T' =>x= .vec 1 (vs.map fun v=> [.val v]) .none∧T' =⟨[], []⟩:=by
  intro g w us r hG hx
  refine (h g w us hx).mono ?_
  rintro e w' ⟨v,rfl,gr,hl,hown⟩
  have r1:=r.gr gr
  have e1:=Evo.of_gr r gr
  rcases hown with ⟨rfl,h0⟩ | ⟨b,cap,cur,rfl,hb,hg,hnc,hcm,hcs,htk⟩
  · have:vs= []:=List.eq_nil_of_length_eq_zero (by omega)
    subst this
    exact ⟨_,_,g,_,rfl,⟨rfl,rfl⟩,e1,r1, .nil trivial,⟨by simp,fun i hi=>absurd hi (Nat.not_lt_zero i),fun i o b hi=>absurd hi (Nat.not_lt_zero i)⟩⟩
  · have hnf:¬g.fr b:=fun hf=>by have:=r.fr b hf;omega
    have hcell:∀(j:Nat) u,vs[j]?=some u→w'.cell? ⟨b,0+j,none⟩=some u:=fun j u hu=>by
      have hj:=(List.getElem?_eq_some_iff.1 hu).1
      unfold World.cell?
      simp only [hg,Nat.zero_add]
      rw [←htk,List.getElem?_take,if_pos (by omega)] at hu
      simpa using hu
    refine ⟨_,_,g.addSt b (fun o=>o<vs.length),_,rfl,⟨rfl,rfl⟩,e1.trans (Evo.addSt hnf),r1.addSt hnf (fun id o h=>by simp at h) (fun k x o hx=>by rw [r1.tout k (Nat.zero_le _)] at hx;cases hx) (fun o ho=> ?_), ?_,⟨by simp,fun i hi=>absurd hi (Nat.not_lt_zero i),fun i o b hi=>absurd hi (Nat.not_lt_zero i)⟩⟩
    · have:=hcell o _ (List.getElem?_eq_getElem ho)
      rw [Nat.zero_add] at this
      rw [this];rfl
    · refine .mk_vec (us:=vs) (by simp) (by simpa using hnc) hcm (fun e he=>by obtain ⟨v,_,rfl⟩:=List.mem_map.1 he;rfl) trivial (by rw [ki];exact VRs.vals _ _ _) (fun j hj=> .inr ⟨rfl, ?_⟩) hcell h1
      rw [ki] at hj
      simpa using hj
end
def gt (l:List Int):List Value:=l.map fun z=> .int .u8 z
theorem jU (l:List Int):bV l=(gt l).map fun v=> [.val v]:=by simp [bV,gt,bT,Function.comp_def]
theorem Gb {g:Gh} {w:World} {l:List Int} {tok:Tok} {v:Value} (h:VR g w (.vec 1 (bV l) tok) v) (hne:l≠ []):Rd w 1 v l.length (gt l):=by
  have hlen:(bV l).length=l.length:=by simp [bV]
  have hne2:bV l≠ []:=fun e=>hne (by have:=congrArg List.length e;rw [hlen] at this;exact List.eq_nil_of_length_eq_zero this)
  rcases h.vec_inv with ⟨_,e,_⟩ | ⟨b,o,c,us,rfl,h1,h2,_,_,h4,_,h5,_⟩ | ⟨a,_,e,_⟩
  · exact absurd e hne2
  · have hfl:(bV l).flatten=(gt l).map .val:=by rw [jU,ki]
    rw [hfl] at h4
    have hu:us=gt l:=by
      refine List.ext_getElem? fun j=> ?_
      have hl:us.length=(gt l).length:=by have:=h4.1;simpa using this
      by_cases hj:j<us.length
      · have hx:((gt l).map TV.val)[j]?=some (.val (gt l)[j]):=by rw [List.getElem?_map,List.getElem?_eq_getElem (by omega)];rfl
        have:=(h4.2 j _ us[j] hx (List.getElem?_eq_getElem hj)).val_inv
        rw [List.getElem?_eq_getElem hj,List.getElem?_eq_getElem (by omega),this]
      · rw [List.getElem?_eq_none (by omega),List.getElem?_eq_none (by omega)]
    subst hu
    rw [hlen] at h1 ⊢
    exact ⟨by simp [gt],_,c,rfl,h1,h2,(fun h=>by cases h),fun ad ha=>by injection ha with ha;subst ha;exact ⟨rfl,fun j u hu=>h5 j u hu⟩⟩
  · exact absurd e hne2
end
section
open Go.RowKit

theorem Mj:(Tryz.prog.info? 5).map (fun i=>(i.zero,i.size,i.bytes))=some (some (.int .u8 0),1,1):=by kernel_rfl

def cU (n size:Nat):List Nat:=(List.range size).map fun k=>n/2^(8*(size-1-k))%256

theorem Gc (n size k:Nat) (h:k<size):(cU n size).take (k+1)=(cU n size).take k++ [n/2^(8*(size-1-k))%256]:=by
 rw [List.take_succ_eq_append_getElem (by simpa [cU] using h)]
 simp [cU]
theorem I1 (n size:Nat):(cU n size).take size=cU n size:=List.take_of_length_le (by simp [cU])

set_option maxHeartbeats 400000 in
theorem At (b:Value) (nb:Nat) (bs:List Value) (h1:∀u∈bs,u.oneCell' =true) (n:Nat) (size:Nat) (hs:size≤8) (hnb:nb≤1099511627776) (w:World) (hb:Rd w 1 b nb bs):
  Calls Tryz.prog 102 #[b, .int .u64 n, .int .i64 size] w (Rets w fun v w' =>w'.ownsRow w.heap.size 5 1 v (nb+size) (bs++ii (cU n size))):=by
 obtain ⟨i0,hi,hz0,hz1,hz2⟩:=info_parts Mj
 have hb' :=hb
 obtain ⟨_,p,c,rfl,_,_,_,_⟩:=hb'
 have HB:=Lib.hid hb
 have H1:=Lib.hid h1
 clear hb h1
 rename_i z1 z2 z3 z4 z5
 clear z1 z3 z4 z5
 have hi' :=Lib.hid hi
 clear hi
 go_enter Tryz.func102,Tryz.ntmps102
 go_wp2_with (first | (at_make;refine Ij 5 w.heap.size i0 (.int .u8 0) 1 1 Tryz.underlying22 hi'.out hz0 hz1 hz2 nb (nb+size) .i64 .i64 _ _ (by rfl) (by rfl) rfl (by omega) (by omega) (by omega) (by unfold maxLen;omega) (Nat.le_refl _) (fun v1 w1 own1 g1 hv1=> ?_)) | (refine Ik w.heap.size 5 Tryz.underlying22 (by kernel_rfl) _ nb _ (by rfl) (by assumption) _ nb bs (by rfl) (HB.out.gr (by assumption)) H1.out (fun w2 own2 gb2=> ?_)))
 have gr2:=zr g1 (Nat.le_refl _) own1 gb2
 have own3:w2.ownsRow w.heap.size 5 1 v1 nb bs:=by
  have hl:=HB.out.len
  have e:List.take nb bs++List.drop nb (List.take (nb*1) (madeCells (Value.int IntKind.u8 0).cells ((nb+size)*1)).toList)=bs:=by
   rw [List.take_of_length_le (by omega),List.drop_eq_nil_of_le (by rw [List.length_take];omega),List.append_nil]
  rwa [e] at own2
 clear own2 gb2 own1 g1 hv1
 go_loopw [7,8] (fun v i wr=>∃j k:Nat,j+k=size∧i= .int .i64 ((j:Int)-1)∧wr.ownsRow w.heap.size 5 1 v (nb+k) (bs++ii ((cU n size).take k))∧Gr w wr) (fun _ i _=>(intOf i+1).toNat)
 case atStart=>exact ⟨size,0,rfl,rfl,by simpa [ii] using own3,gr2⟩
 case round=>
  obtain ⟨j,k,hk,rfl,hown,hgr⟩:=hrel
  have HO:=Lib.hid hown
  have HK:=Lib.hid hk
  have hks:k≤size:=by omega
  clear hown own3 hk
  cases j with
  | zero=>
   have e:k=size:=by have:=HK.out;omega
   subst e
   go_wp2
   go_ret
   refine Rets.mk hgr ?_
   have:=HO.out
   rwa [I1] at this
  | succ j=>
   have hj8:j<8:=by have:=HK.out;omega
   rw [show (((j+1:Nat):Int)-1)=(j:Int) by omega]
   go_wp2_with (at_builtin;go_loud (refine L1 w.heap.size 5 i0 (.int .u8 0) 1 1 Tryz.underlying22 hi'.out hz0 hz1 hz2 rfl (by decide) _ (nb+k) _ (by rfl) (World.ownsRow.alloc HO.out _) _ 1 [_] (by rfl) (Rd.new _ [_] _ 1 1 rfl (by decide)) (by intro u hu;simp at hu;subst hu;rfl) (by unfold maxLen;omega) (by omega) (by have:=Gr.size hgr;simp;omega) (fun v1 w1 own1 gb1=> ?_)))
   go_roundw
   case rel=>
    refine ⟨j,k+1,by have:=HK.out;omega,rfl, ?_,zr (hgr.alloc _) (Nat.le_refl _) (HO.out.alloc _) gb1⟩
    have hk1:k<size:=by have:=HK.out;omega
    rw [Gc n size k hk1,Ii,←List.append_assoc]
    have e:size-1-k=j:=by have:=HK.out;omega
    rw [e]
    exact own1
   case measure=>simp [intOf]

end
section
open Go.RowKit

def bp (b:Bs) (e:Int):Int:=bif decide (e=0) then (b.length:Int) else 0
def Au:aV:=fun ro ys T K=>match ys with
 | [.ptr k 0, .val (.int .i64 n)]=>match T.objs[k]? with
  | some (.cells [.val (.bool true), .vec 1 b .none, .val (.int .i64 a), .val (.int .i64 e)])=>(Nat.ble ro k=true∧IsB b)∧K (.vec 1 (bR n b e) .none) {T with objs:=T.objs.set k (aE (aA n b e) (bt n b e a) (aB n b e))}
  | _=>False
 | _=>False
def lS:aV:=fun ro ys T K=>match ys with
 | [.ptr k 0]=>match T.objs[k]? with
  | some (.cells [.val (.bool true), .vec 1 b .none, .val (.int .i64 a), .val (.int .i64 e)])=>(Nat.ble ro k=true∧IsB b)∧K (.val (.int .i64 (bp b e))) T
  | _=>False
 | _=>False
def kC:aV:=fun ro ys T K=>match ys with
 | [.ptr k 0]=>match T.objs[k]? with
  | some (.cells [.val (.bool true), .vec 1 b .none, .val (.int .i64 a), .val (.int .i64 e)])=>(Nat.ble ro k=true∧IsB b)∧K (.val (.int .i64 e)) T
  | _=>False
 | _=>False
def vp:aV:=fun ro ys T K=>match ys with
 | [.ptr k 0, .val (.int .i64 n)]=>match T.objs[k]? with
  | some (.cells [.val (.bool true), .vec 1 b .none, .val (.int .i64 a), .val (.int .i64 e)])=>(Nat.ble ro k=true∧IsB b)∧K (.ptr T.objs.length 0) {T with objs:=T.objs.set k (aE (aA n b e) (bt n b e a) (aB n b e))++ [aE (bR n b e) 0 0]}
  | _=>False
 | _=>False
def q9:aV:=fun ro ys T K=>match ys with
 | [.ptr k 0]=>match T.objs[k]? with
  | some (.cells [.val (.bool true), .vec 1 b .none, .val (.int .i64 a), .val (.int .i64 e)])=>(Nat.ble ro k=true∧IsB b)∧K (.vec 1 (bR (bp b e) b e) .none) {T with objs:=T.objs.set k (aE (aA (bp b e) b e) (bt (bp b e) b e a) (aB (bp b e) b e))}
  | _=>False
 | _=>False
def gD:aV:=fun _ ys T K=>match ys with
 | [.vec 1 b _]=>IsB b∧K (.ptr T.objs.length 0) {T with objs:=T.objs++ [aE b 0 0]}
 | _=>False
section
variable {P:Program} {G:aU}
theorem Av {T:VT} {k:Nat} {o:VO} (h:T.objs[k]?=some o):T.objs.set k o=T.objs:=by
 apply List.ext_getElem?
 intro j
 rw [List.getElem?_set]
 split
 ·rename_i e;subst e
  rw [if_pos (List.getElem?_eq_some_iff.1 h).1,h]
 ·rfl
theorem Gd (hG:dl G) {f:FuncId} (h:∀b a e n,IsB b→VCx P G 0 f [.ptr 0 0, .val (.int .i64 n)] ⟨[aE b a e], []⟩ fun x T' =>x= .vec 1 (bR n b e) .none∧T' =⟨[aE (aA n b e) (bt n b e a) (aB n b e)], []⟩):
  ∀ro ys T K,Au ro ys T K→VCx P G ro f ys T K:=by
 intro ro ys T K hw
 unfold Au at hw
 split at hw
 ·rename_i k n
  split at hw
  ·rename_i b a e ho
   obtain ⟨⟨hro,hb⟩,hk⟩:=hw
   refine VCx.at1 (Q:=fun x o' l' =>x= .vec 1 (bR n b e) .none∧o' =aE (aA n b e) (bt n b e a) (aB n b e)∧l' = []) hG (Nat.le_of_ble_eq_true hro) ho rfl (bC hb a e _ _) (ys1:= [.ptr 0 0, .val (.int .i64 n)]) (by simp [ar,TV.ren,bb]) ((h b a e n hb).mono fun x T' ⟨h1,h2⟩=>⟨_,_,h2,h1,rfl,rfl⟩) ?_
   rintro x o' l' ⟨rfl,rfl,rfl⟩
   rw [bC (aF hb)]
   simpa [TV.ren,(gC hb).ren,Tok.ren] using hk
  ·exact hw.elim
 ·exact hw.elim
theorem OG (hG:dl G) {f:FuncId} (h:∀b a e,IsB b→VCx P G 0 f [.ptr 0 0] ⟨[aE b a e], []⟩ fun x T' =>x= .val (.int .i64 (bp b e))∧T' =⟨[aE b a e], []⟩):
  ∀ro ys T K,lS ro ys T K→VCx P G ro f ys T K:=by
 intro ro ys T K hw
 unfold lS at hw
 split at hw
 ·rename_i k
  split at hw
  ·rename_i b a e ho
   obtain ⟨⟨hro,hb⟩,hk⟩:=hw
   refine VCx.at1 (Q:=fun x o' l' =>x= .val (.int .i64 (bp b e))∧o' =aE b a e∧l' = []) hG (Nat.le_of_ble_eq_true hro) ho rfl (bC hb a e _ _) (ys1:= [.ptr 0 0]) (by simp [ar,TV.ren,bb]) ((h b a e hb).mono fun x T' ⟨h1,h2⟩=>⟨_,_,h2,h1,rfl,rfl⟩) ?_
   rintro x o' l' ⟨rfl,rfl,rfl⟩
   rw [bC hb,show T.objs.set k (aE b a e)=T.objs from Av ho]
   simpa [TV.ren] using hk
  ·exact hw.elim
 ·exact hw.elim
theorem OH (hG:dl G) {f:FuncId} (h:∀b a e,IsB b→VCx P G 0 f [.ptr 0 0] ⟨[aE b a e], []⟩ fun x T' =>x= .val (.int .i64 e)∧T' =⟨[aE b a e], []⟩):
  ∀ro ys T K,kC ro ys T K→VCx P G ro f ys T K:=by
 intro ro ys T K hw
 unfold kC at hw
 split at hw
 ·rename_i k
  split at hw
  ·rename_i b a e ho
   obtain ⟨⟨hro,hb⟩,hk⟩:=hw
   refine VCx.at1 (Q:=fun x o' l' =>x= .val (.int .i64 e)∧o' =aE b a e∧l' = []) hG (Nat.le_of_ble_eq_true hro) ho rfl (bC hb a e _ _) (ys1:= [.ptr 0 0]) (by simp [ar,TV.ren,bb]) ((h b a e hb).mono fun x T' ⟨h1,h2⟩=>⟨_,_,h2,h1,rfl,rfl⟩) ?_
   rintro x o' l' ⟨rfl,rfl,rfl⟩
   rw [bC hb,show T.objs.set k (aE b a e)=T.objs from Av ho]
   simpa [TV.ren] using hk
  ·exact hw.elim
 ·exact hw.elim
theorem I2 (hG:dl G) {f:FuncId} (h:∀b a e n,IsB b→VCx P G 0 f [.ptr 0 0, .val (.int .i64 n)] ⟨[aE b a e], []⟩ fun x T' =>x= .ptr 1 0∧T' =⟨[aE (aA n b e) (bt n b e a) (aB n b e),aE (bR n b e) 0 0], []⟩):
  ∀ro ys T K,vp ro ys T K→VCx P G ro f ys T K:=by
 intro ro ys T K hw
 unfold vp at hw
 split at hw
 ·rename_i k n
  split at hw
  ·rename_i b a e ho
   obtain ⟨⟨hro,hb⟩,hk⟩:=hw
   refine VCx.at1 (Q:=fun x o' l' =>x= .ptr 1 0∧o' =aE (aA n b e) (bt n b e a) (aB n b e)∧l' = [aE (bR n b e) 0 0]) hG (Nat.le_of_ble_eq_true hro) ho rfl (bC hb a e _ _) (ys1:= [.ptr 0 0, .val (.int .i64 n)]) (by simp [ar,TV.ren,bb]) ((h b a e n hb).mono fun x T' ⟨h1,h2⟩=>⟨_,_,h2,h1,rfl,rfl⟩) ?_
   rintro x o' l' ⟨rfl,rfl,rfl⟩
   rw [bC (aF hb)]
   simp only [List.map_cons,List.map_nil,bC (gC hb)]
   simpa [TV.ren,bf] using hk
  ·exact hw.elim
 ·exact hw.elim
theorem Ge (hG:dl G) {f:FuncId} (h:∀b a e,IsB b→VCx P G 0 f [.ptr 0 0] ⟨[aE b a e], []⟩ fun x T' =>x= .vec 1 (bR (bp b e) b e) .none∧T' =⟨[aE (aA (bp b e) b e) (bt (bp b e) b e a) (aB (bp b e) b e)], []⟩):
  ∀ro ys T K,q9 ro ys T K→VCx P G ro f ys T K:=by
 intro ro ys T K hw
 unfold q9 at hw
 split at hw
 ·rename_i k
  split at hw
  ·rename_i b a e ho
   obtain ⟨⟨hro,hb⟩,hk⟩:=hw
   refine VCx.at1 (Q:=fun x o' l' =>x= .vec 1 (bR (bp b e) b e) .none∧o' =aE (aA (bp b e) b e) (bt (bp b e) b e a) (aB (bp b e) b e)∧l' = []) hG (Nat.le_of_ble_eq_true hro) ho rfl (bC hb a e _ _) (ys1:= [.ptr 0 0]) (by simp [ar,TV.ren,bb]) ((h b a e hb).mono fun x T' ⟨h1,h2⟩=>⟨_,_,h2,h1,rfl,rfl⟩) ?_
   rintro x o' l' ⟨rfl,rfl,rfl⟩
   rw [bC (aF hb)]
   simpa [TV.ren,(gC hb).ren,Tok.ren] using hk
  ·exact hw.elim
 ·exact hw.elim
theorem Gf (hG:dl G) {f:FuncId} (h:∀b,IsB b→VCx P G 0 f [.vec 1 b .none] ⟨[], []⟩ fun x T' =>x= .ptr 0 0∧T' =⟨[aE b 0 0], []⟩):
  ∀ro ys T K,gD ro ys T K→VCx P G ro f ys T K:=by
 intro ro ys T K hw
 unfold gD at hw
 split at hw
 ·rename_i b tok
  obtain ⟨hb,hk⟩:=hw
  refine VCx.loose ?_
  refine (VCx.lift (xs:= [.vec 1 b .none]) [] [] hG List.nodup_nil List.nodup_nil (fun k hk=>by simp at hk) (by simp) (fun i hi=>by simp at hi) (by simp [ar,bG,TV.ren,hb.ren,Tok.ren]) (h b hb) (fun x T' hq=>⟨Nat.zero_le _,Nat.zero_le _⟩)).mono ?_
  rintro x T' ⟨y,T2,⟨rfl,rfl⟩,rfl,rfl⟩
  have e:VT.back T [] [] ⟨[aE b 0 0], []⟩={T with objs:=T.objs++ [aE b 0 0]}:=by
   simp only [VT.back,List.map_cons,List.map_nil,bC hb,cu,List.append_nil]
  rw [e]
  simpa [TV.ren,bf] using hk
 ·exact hw.elim
end
def Ut (B:Bs) (n:Int):Bs:=B.drop n.toNat
def Gg (m:Int) (B:Bs) (n e:Int):Int:=bif cn m (Ut B n) e then n+m else n
section
variable {P:Program} {G:aU}
end
end
section
open Go.RowKit

section
variable {P:Program} {G:aU}
end
end
section
open Go.RowKit
abbrev ak (a1:Int):TV:=(.val (.int .i64 a1))
abbrev ir (a1:Int):TV:=(.val (.int .u32 a1))
abbrev eX (a1:List (List TV)):TV:=(.vec 2 a1 .none)
abbrev aI (a1:List (List TV)):TV:=(.vec 1 a1 .none)
abbrev nY (a1:Bool):TV:=(.val (.bool a1))
abbrev rf (a1 a2 a3 a4:Int) (a5 a6:List (List TV)) (a7:Int) (a8:List (List TV)) (a9 a10:Int) (a11:Bool) (a12:List (List TV)) (a13 a14:Int) (a15:List (List TV)):VO:=(.cells [(ak a1),(ak a2),(ak a3),(ir a4),(eX a5),(eX a6),(ak a7),(aI a8),(ir a9),(ak a10),(nY a11),(eX a12),(ak a13),(ak a14),(aI a15)])
abbrev ep (a1 a2:Int) (a3:List (List TV)):VO:=(.cells [(ak a1),(ak a2),(aI a3)])
abbrev TX (a1 a2 a3 a4:Int) (a5 a6:List (List TV)) (a7:Int) (a8:List (List TV)) (a9 a10:Int) (a11:Bool) (a12:List (List TV)) (a13 a14:Int) (a15:List (List TV)) (a16 a17 a18 a19:Int) (a20 a21:List (List TV)) (a22:Int) (a23:List (List TV)) (a24 a25:Int) (a26:Bool) (a27:List (List TV)) (a28 a29:Int) (a30:List (List TV)) (a31 a32:Int) (a33:List (List TV)) (a34 a35 a36 a37:Int) (a38 a39:List (List TV)) (a40:Int) (a41:List (List TV)) (a42 a43:Int) (a44:Bool) (a45:List (List TV)) (a46 a47:Int) (a48:List (List TV)) (a49 a50:Int) (a51:List (List TV)) (a52:List TV) (a53:List (Nat × Nat × Bool)):VT:=⟨[(rf a1 a2 a3 a4 a5 a6 a7 a8 a9 a10 a11 a12 a13 a14 a15),(rf a16 a17 a18 a19 a20 a21 a22 a23 a24 a25 a26 a27 a28 a29 a30),(ep a31 a32 a33),(rf a34 a35 a36 a37 a38 a39 a40 a41 a42 a43 a44 a45 a46 a47 a48),(ep a49 a50 a51),(.row a52)],a53⟩
abbrev TY (a1 a2 a3 a4:Int) (a5 a6:List (List TV)) (a7:Int) (a8:List (List TV)) (a9 a10:Int) (a11:Bool) (a12:List (List TV)) (a13 a14:Int) (a15:List (List TV)) (a16 a17 a18 a19:Int) (a20 a21:List (List TV)) (a22:Int) (a23:List (List TV)) (a24 a25:Int) (a26:Bool) (a27:List (List TV)) (a28 a29:Int) (a30:List (List TV)) (a31 a32:Int) (a33:List (List TV)) (a34:List (Nat × Nat × Bool)):VT:=⟨[(rf a1 a2 a3 a4 a5 a6 a7 a8 a9 a10 a11 a12 a13 a14 a15),(rf a16 a17 a18 a19 a20 a21 a22 a23 a24 a25 a26 a27 a28 a29 a30),(ep a31 a32 a33)],a34⟩
abbrev CI (a1 a2 a3 a4:Int) (a5 a6:List (List TV)) (a7:Int) (a8:List (List TV)) (a9 a10:Int) (a11:Bool) (a12:List (List TV)) (a13 a14:Int) (a15:List (List TV)):List TV:= [(ak a1),(ak a2),(ak a3),(ir a4),(eX a5),(eX a6),(ak a7),(aI a8),(ir a9),(ak a10),(nY a11),(eX a12),(ak a13),(ak a14),(aI a15)]
abbrev aj:TV:=(.val (.bool false))
abbrev I3 (a1:Int) (a2:List (List TV)) (a3 a4:Int):List TV:= [aj,(ak a1),(eX a2),(ak a3),(ak a4)]
abbrev pP (a1:Nat):TV:=(.row 1 1 0 a1)
abbrev oz:TV:=(.row 1 0 0 0)
abbrev dX:TV:=(.val (.int .i64 1))
abbrev du:TV:=(.val (.int .i64 2))
abbrev aO:TV:=(.val (.slice .none 0 0))
abbrev I4:VO:=(.cells [dX,du,aO])
abbrev aD:TV:=(.val (.int .i64 0))
abbrev cl:TV:=(.val (.int .u32 0))
abbrev wM:VO:=(.cells [aD,aD,aD,cl,aO,aO,aD,aO,cl,aD,aj,aO,aD,aD,aO])
abbrev OI (a1:Int) (a2:List (List TV)) (a3:Int) (a4:List (List TV)):VT:=⟨[wM,(.cells [dX,(ak a1),(aI a2)]),(.cells [dX,(ak a3),(aI a4)]),I4], []⟩
abbrev Aw:TV:=(.agg [aD,aD,aD,cl,aO,aO,aD,aO,cl,aD,aj,aO,aD,aD,aO])
abbrev OJ (a1:Int) (a2:List (List TV)):TV:=(.tup [Aw,(.agg [dX,(ak a1),(aI a2)])])
abbrev OK (a1:Int):VO:=(.cells [(ak a1),aD,aD,cl,aO,aO,aD,aO,cl,aD,aj,aO,aD,aD,aO])
abbrev Uu (a1 a2 a3:Int) (a4:List (List TV)):VO:=(.cells [(ak a1),aD,aD,cl,aO,aO,aD,aO,cl,aD,aj,aO,(ak a2),(ak a3),(aI a4)])
abbrev Uv (a1 a2 a3 a4:Int) (a5:List (List TV)):VO:=(.cells [(ak a1),(ak a2),(ak a3),(ir a4),(eX a5),aO,aD,aO,cl,aD,aj,aO,aD,aD,aO])
abbrev mZ:VO:=(.cells [dX,du,(.row 1 4 0 2)])
abbrev OL:TV:=(.tup [Aw,(.agg [dX,du,(.row 1 4 0 2)])])
abbrev cg:VO:=(.cells [aD,aD,aO])
abbrev bH (a1:Int):TV:=(.val (.int .u8 a1))
abbrev Ax (a1 a2:Int):VO:=(.row [(bH a1),(bH a2)])
abbrev jc:TV:=(.val (.int .u8 255))
abbrev rg:VO:=(.cells [jc,jc,jc,jc,jc,jc,jc,jc,jc,jc,jc,jc,jc,jc,jc,jc])
abbrev OM (a1 a2:Int):VT:=⟨[cg,(Ax a1 a2),rg,rg], []⟩
abbrev kj:TV:=(.agg [aD,aD,aO])
abbrev ON (a1 a2:Int):TV:=(.tup [(ak a1),(ak a2),kj])
abbrev I5:List TV:= [aD,(.val (.int .i64 29)),(.val (.int .i64 23)),(.val (.int .i64 21)),(.val (.int .i64 19))]
abbrev eL:TV:=(.val (.int .i64 3))
abbrev pQ (a1:List (List TV)):TV:=(.vec 1 a1 .full)
abbrev OO (a1:List (List TV)) (a2 a3:Int) (a4:List (List TV)):VT:=⟨[(.cells [dX,eL,(pQ a1)]),(Ax a2 a3),rg,rg,(.cells [dX,eL,(pQ a4)])], []⟩
abbrev OP (a1:List (List TV)):TV:=(.tup [aD,aD,(.agg [dX,eL,(pQ a1)])])
abbrev Ay (a1 a2:Int):VT:=⟨[(.cells [dX,du,(.row 1 1 0 2)]),(Ax a1 a2),rg,rg,(.cells [dX,du,(.row 1 1 0 2)])], []⟩
abbrev Az:TV:=(.tup [aD,aD,(.agg [dX,du,(.row 1 1 0 2)])])
abbrev OQ:VO:=(.cells [dX,dX,aO])
abbrev OS (a1 a2:Int):VT:=⟨[OQ,(Ax a1 a2),rg,rg,OQ], []⟩
abbrev OT:TV:=(.tup [aD,aD,(.agg [dX,dX,aO])])
abbrev Ew (a1 a2 a3 a4 a5 a6 a7 a8 a9 a10 a11 a12 a13 a14 a15 a16:Int):TV:=(.agg [(bH a1),(bH a2),(bH a3),(bH a4),(bH a5),(bH a6),(bH a7),(bH a8),(bH a9),(bH a10),(bH a11),(bH a12),(bH a13),(bH a14),(bH a15),(bH a16)])
abbrev Ex:VO:=(.cells [eL,(.val (.int .i64 10)),aO])
abbrev I6:TV:=(.agg [aO,aD,aO,cl,aD,aj,aO])
abbrev OU:TV:=(.tup [I6,(.agg [eL,(.val (.int .i64 10)),aO])])
abbrev pR:TV:=(.vec 1 [] .none)
abbrev Ey (a1 a2:List (List TV)):VO:=(.cells [(eX a1),aD,pR,cl,aD,aj,(eX a2)])
abbrev OV (a1 a2:List (List TV)):TV:=(.tup [(.agg [(eX a1),aD,pR,cl,aD,aj,(eX a2)]),kj])
abbrev rh:VO:=(.cells [aD,pR,cl,aD,aj])
abbrev Ez (a1:Int) (a2:List (List TV)):TV:=(.tup [I6,(.agg [eL,(ak a1),(aI a2)])])
abbrev Uw (a1:List (List TV)) (a2:Int) (a3:List (List TV)) (a4 a5:Int) (a6:Bool) (a7:List (List TV)):VO:=(.cells [(eX a1),(ak a2),(aI a3),(ir a4),(ak a5),(nY a6),(eX a7)])
abbrev Ux (a1:List (List TV)) (a2:Int) (a3:List (List TV)) (a4 a5:Int) (a6:Bool) (a7:List (List TV)):TV:=(.tup [(.agg [(eX a1),(ak a2),(aI a3),(ir a4),(ak a5),(nY a6),(eX a7)]),kj])
abbrev gR (a1:List (List TV)):VO:=(.cells [(.ptr 4 6),(aI a1)])
abbrev gu (a1:List (List TV)):VO:=(.cells [(.ptr 4 0),(aI a1)])
abbrev gS (a1 a2:List (List TV)):VO:=(.cells [(eX a1),aD,aO,cl,aD,aj,(eX a2)])
abbrev tW (a1 a2:List (List TV)):TV:=(.tup [(.agg [(eX a1),aD,aO,cl,aD,aj,(eX a2)]),kj])
abbrev fZ:VO:=(.cells [(.ptr 2 0)])
abbrev m8:VO:=(.cells [aO,aD,aO,cl,aD,aj,aO])
abbrev I7 (a1:Int) (a2:List (List TV)):VO:=(.cells [eL,(ak a1),(aI a2)])
abbrev eg:TV:=(.ptr 0 0)
abbrev OW (a1:List (List TV)) (a2 a3:Int):List TV:= [eg,(.ptr 1 0),(.ptr 3 0),(.ptr 4 0),(.vec 3 a1 .none),(ak a2),(ak a3)]
abbrev m9:VO:=(.cells [aD,aO,cl,aD,aj])
abbrev dM:VO:=(.cells [aD,aD,pR])
abbrev fH (a1:Int) (a2:TV) (a3 a4:Int) (a5:Bool):VO:=(.cells [(ak a1),a2,(ir a3),(ak a4),(nY a5)])
abbrev EA (a1:Int) (a2:TV) (a3 a4:Int) (a5:Bool) (a6:List TV) (a7 a8:Int) (a9:List (List TV)):VT:=⟨[m9,cg,dM,(fH a1 a2 a3 a4 a5),(.cells a6),(ep a7 a8 a9)], []⟩
abbrev OX:VO:=(.cells [eL,dX,pR])
abbrev I8:TV:=(.agg [aD,aO,cl,aD,aj])
abbrev wO (a1:Int) (a2:List (List TV)) (a3 a4:Int) (a5:Bool):VO:=(.cells [(ak a1),(aI a2),(ir a3),(ak a4),(nY a5)])
abbrev I9 (a1:List (List TV)) (a2:Int) (a3:List (List TV)) (a4 a5:Int) (a6:Bool) (a7:List TV):VT:=⟨[m9,(.cells [eL,eL,(pQ a1)]),dM,(wO a2 a3 a4 a5 a6),(.cells a7)], []⟩
abbrev Ja (a1 a2 a3:Int) (a4:Bool):VO:=(.cells [(ak a1),aO,(ir a2),(ak a3),(nY a4)])
abbrev Jb (a1:List (List TV)) (a2 a3 a4:Int) (a5:Bool) (a6:List TV):VT:=⟨[m9,(.cells [eL,eL,(pQ a1)]),dM,(Ja a2 a3 a4 a5),(.cells a6)], []⟩
abbrev wP (a1:List (List TV)):TV:=(.tup [I8,(.agg [eL,eL,(pQ a1)])])
abbrev OY:VT:=⟨[m9,cg,dM,m9,(.cells [aj,aj,aj,aj,aj,aj,aj,aj,aj,aj,aj,aj,aj,aj,aj,aj,aj,aj,aj,aj,aj,aj,aj,aj,aj,aj,aj,aj,aj,aj,aj,aj,aj,aj,aj,aj,aj,aj,aj,aj,aj,aj,aj,aj,aj,aj,aj,aj,aj,aj,aj,aj,aj,aj,aj,aj,aj,aj,aj,aj,aj,aj,aj,aj,aj,aj,aj,aj,aj,aj,aj,aj,aj,aj,aj,aj,aj,aj,aj,aj,aj,aj,aj,aj,aj,aj,aj,aj,aj,aj,aj,aj,aj,aj,aj,aj,aj,aj,aj,aj,aj,aj,aj,aj,aj,aj,aj,aj,aj,aj,aj,aj,aj,aj,aj,aj,aj,aj,aj,aj,aj,aj,aj,aj,aj,aj,aj,aj,aj,aj,aj,aj,aj,aj,aj,aj,aj,aj,aj,aj,aj,aj,aj,aj,aj,aj,aj,aj,aj,aj,aj,aj,aj,aj,aj,aj,aj,aj,aj,aj,aj,aj,aj,aj,aj,aj,aj,aj,aj,aj,aj,aj,aj,aj,aj,aj,aj,aj,aj,aj,aj,aj,aj,aj,aj,aj,aj,aj,aj,aj,aj,aj,aj,aj,aj,aj,aj,aj,aj,aj,aj,aj,aj,aj,aj,aj,aj,aj,aj,aj,aj,aj,aj,aj,aj,aj,aj,aj,aj,aj,aj,aj,aj,aj,aj,aj,aj,aj,aj,aj,aj,aj,aj,aj,aj,aj,aj,aj,aj,aj,aj,aj,aj,aj,aj,aj,aj,aj,aj,aj,aj,aj,aj,aj,aj,aj])], []⟩
abbrev Uy (a1:Int):VO:=(.row [(bH a1)])
abbrev fI:VO:=(.cells [eg])
abbrev Jc:TV:=(.val (.int .i64 64))
abbrev na:TV:=(.val (.int .i64 4))
abbrev Jd (a1:TV):VO:=(.cells [Jc,na,a1])
abbrev OZ (a1:Int) (a2:TV) (a3 a4:Int) (a5:Bool) (a6 a7:Int) (a8:List (List TV)) (a9 a10:TV):VT:=⟨[(fH a1 a2 a3 a4 a5),(ep a6 a7 a8),fI,(Jd a9),(Jd a10)], []⟩
abbrev Je:TV:=(.val (.int .i64 6))
abbrev Jf (a1:TV):VO:=(.cells [Jc,dX,a1])
abbrev O0 (a1:Int) (a2:TV) (a3 a4:Int) (a5:Bool) (a6 a7:Int) (a8:List (List TV)) (a9 a10:TV):VT:=⟨[(fH a1 a2 a3 a4 a5),(ep a6 a7 a8),fI,(Jf a9),(Jf a10)], []⟩
abbrev ri (a1:TV):VO:=(.cells [aD,aD,a1])
abbrev Uz (a1:TV):VO:=(.cells [(.val (.int .i64 128)),na,a1])
abbrev UA (a1:TV):VO:=(.cells [Jc,aD,a1])
abbrev wQ:TV:=(.val (.int .i64 5))
abbrev kU (a1 a2:Int):VO:=(.cells [(ak a1),(ak a2),pR])
abbrev lL (a1:List (List TV)) (a2:Nat):TV:=(.vec 1 a1 (.tail 0 a2))
abbrev Jg (a1:List (List TV)) (a2:Nat) (a3:Int):List TV:= [aO,aj,eg,(lL a1 a2),(ak a3),aD]
abbrev rj (a1:List (List TV)) (a2:Nat):List TV:= [aO,aj,eg,(lL a1 a2)]
abbrev Jh (a1:List (List TV)) (a2 a3:Int) (a4:List (List TV)) (a5 a6:Int):List TV:= [(aI a1),(ak a2),(ak a3),(aI a4),(ak a5),(ak a6)]
abbrev AA:VO:=(.cells [eL,dX,aO])
abbrev wR (a1:List (List TV)) (a2:Nat):TV:=(.vec 3 a1 (.tail 0 a2))
abbrev AB (a1:List (List TV)) (a2:Nat):List TV:= [aO,eg,(.ptr 1 0),(wR a1 a2)]
abbrev KJ:TV:=(.agg [eL,dX,aO])
abbrev nZ:VO:=(.cells [du,Je,aO])
abbrev sI:TV:=(.agg [aD,aD,cl,aO])
abbrev yV:TV:=(.tup [sI,(.agg [du,Je,aO])])
abbrev n6 (a1:Int):VO:=(.cells [du,(ak a1),aO])
abbrev yW (a1:Int):TV:=(.tup [sI,(.agg [du,(ak a1),aO])])
abbrev n7 (a1 a2 a3:Int) (a4:List (List TV)):VO:=(.cells [(ak a1),(ak a2),(ir a3),(eX a4)])
abbrev yX (a1 a2 a3:Int) (a4:List (List TV)):TV:=(.tup [(.agg [(ak a1),(ak a2),(ir a3),(eX a4)]),kj])
abbrev n8:VO:=(.cells [du,eL,aO])
abbrev yY:TV:=(.tup [sI,(.agg [du,eL,aO])])
abbrev eV (a1 a2 a3:Int):VO:=(.cells [(ak a1),(ak a2),(ir a3),aO])
abbrev yZ:VO:=(.cells [du,du,aO])
abbrev KK:TV:=(.tup [sI,(.agg [du,du,aO])])
abbrev lq:VO:=(.cells [du,aD,aO])
abbrev bM:VO:=(.cells [aD,aD,cl,aO])
abbrev vq:TV:=(.tup [sI,(.agg [du,aD,aO])])
abbrev gZ (a1:List (List TV)) (a2:Nat):TV:=(.vec 2 a1 (.tail 0 a2))
abbrev y0 (a1:List (List TV)) (a2:Nat):List TV:= [eg,aO,aD,aj,(gZ a1 a2)]
abbrev vt:TV:=(.vec 2 [] (.tail 0 0))
abbrev KL:List TV:= [eg,aO,aD,aj,vt]
abbrev vu (a1:Int) (a2:List (List TV)):VO:=(.cells [(ak a1),(aI a2)])
abbrev SL (a1 a2:Int) (a3:List (List TV)) (a4 a5:Int) (a6:List (List TV)):VT:=⟨[cg,(ep a1 a2 a3),(ep a4 a5 a6)], []⟩
abbrev KM:VT:=⟨[cg], []⟩
abbrev sJ:TV:=(.tup [kj,aj])
abbrev EB (a1:List (List TV)) (a2:Nat):List TV:= [aO,aj,eg,(gZ a1 a2)]
abbrev y7:TV:=(.tup [aO,aj])
abbrev fP:TV:=(.val (.int .u8 0))
abbrev KN (a1:Int):VO:=(.cells [(bH a1),fP,fP,fP])
abbrev dK (a1:Int):List TV:= [(bH a1)]
abbrev ax:TV:=(.val (.bool true))
abbrev vv (a1 a2:Int):TV:=(.tup [(.agg [(ir a1),(ak a2)]),ax])
abbrev KO:VO:=(.cells [fP,fP,fP,fP])
abbrev gv:VO:=(.cells [cl,aD])
abbrev gw:TV:=(.tup [(.agg [cl,aD]),aj])
abbrev mi (a1 a2:Int):VO:=(.cells [(ir a1),(ak a2)])
abbrev vw (a1:Int):TV:=(.val (.int .u64 a1))
abbrev dv (a1:VO):VT:=⟨[a1], []⟩
abbrev y8:TV:=(.vec 1 [] .full)
abbrev aG:VT:=⟨[], []⟩
abbrev k6 (a b:Int):Bool:=aP (Value.int IntKind.i64 a) (Value.int IntKind.i64 b)
end
section
open Go.RowKit

def ae:aU:=fun _=>none
def br:FuncId→Option aV:=fun _=>none
def aK:Nat→Option (b6 × Code):=fun _=>none

abbrev xW:=41
abbrev lM:=71
abbrev wS:=115
abbrev tX:=111
abbrev jd:=80
abbrev EC:=113
abbrev jA:=76
abbrev iu:=82
abbrev ED:=81
abbrev gU:=72
abbrev lr:=73
abbrev y9:=74
abbrev jB:=69
abbrev sK:=139
def UL (T:VT) (n:Nat):VT:={T with tails:= [(n,1,false)]}
def oY:aV:=fun _ ys T K=>match ys with
 | [.vec 1 b _]=>IsB b∧K (.vec 1 b .none) T
 | _=>False
def AC:List Nat:= [5,10,11,12]
def AD (b:Bs) (n j:Int):List TV:= [.val (.int .u64 n), .vec 1 b .none, .val (.int .i64 b.length), .val (.int .i64 j)]
def TZ (b:Bs) (n:Int) (c0:Code):Nat→Option (b6 × Code):=cJ [(0,eU 23 AC [] (AD b 0 0) ⟨[], []⟩ fun K=>K .normal (aR 23 AC (AD b n b.length)) ⟨[], []⟩ [],c0)]
def EE:aV:=fun ro ys T K=>match ys with
 | [.ptr k 0, .val (.int .i64 n)]=>match T.objs[k]? with
  | some (.cells [.val (.bool true), .vec 1 b .none, .val (.int .i64 a), .val (.int .i64 e)])=>(Nat.ble ro k=true∧IsB b)∧K (.vec 1 (bR n b e) .none) {T with objs:=T.objs.set k (aE (aA n b e) (bt n b e a) (aB n b e))}
  | _=>False
 | _=>False
def tY:aV:=fun _ ys T K=>match ys with
 | [.vec 1 b _, .val (.int .i64 n)]=>(IsB b∧qZ n∧q8 n b)∧K (.val (.int .u64 (cj n b))) T
 | _=>False
def wT:aV:=fun ro ys T K=>match ys with
 | [.ptr k 0, .val (.int .i64 n)]=>match T.objs[k]? with
  | some (.cells [.val (.bool true), .vec 1 b .none, .val (.int .i64 a), .val (.int .i64 e)])=>(Nat.ble ro k=true∧IsB b∧qZ n)∧K (.val (.int .u64 (lR n b e))) {T with objs:=T.objs.set k (aE (aA n b e) (bt n b e a) (aB n b e))}
  | _=>False
 | _=>False
theorem O1 (Q:TV→VT→Prop):au Tryz.prog ae br aT 300 aK 0 xW [.vec 1 [] .none] aG Q=
 (Q aO aG∧
 Q y8 aG):=by kernel_rfl
theorem O2 (r:List TV) (b:Bs) (Q:TV→VT→Prop):au Tryz.prog ae br (bc [(999998, .dead,none),(7, .vec 1 (r::b) (.tail 0 (b.length+1)),some fun T=>UL T (b.length+1))]) 300 aK 0 xW [.vec 1 (r::b) .none] aG Q=
 (ba Tryz.prog (fun _=> .none) 0 aG (.call ⟨(.builtin .append), #[(.tmp 5),(.tmp 6)], #[22,22]⟩) [(5,y8),(6,(aI ([(r)]++b)))] (lL ([(r)]++b) (List.length b+(1:Nat))) ⟨[], [((List.length b+(1:Nat)),(1,false))]⟩∧
 Q (lL ([(r)]++b) (List.length b+(1:Nat))) ⟨[], [((List.length b+(1:Nat)),(1,false))]⟩):=by kernel_rfl
theorem O3 (b:Bs) (Q:TV→VT→Prop):au Tryz.prog ae (aC [(xW,oY)]) aT 300 aK 0 lM [.vec 1 b .none] aG Q=
 (IsB (b)∧
 Q eg ⟨[(.cells [ax,(aI b),aD,aD])], []⟩):=by kernel_rfl
theorem O4 (b:Bs) (a e n:Int) (k:Nat) (Q:TV→VT→Prop):au Tryz.prog ae br (bc [(999998, .dead,none),(32, .vec 1 (b.take k) .none,none),(40, .vec 1 (b.drop k) .none,none)]) 300 aK 0 wS [.ptr 0 0, .val (.int .i64 n)] (dv (aE b a e)) Q=
 (bif !av BinOp.eql (k6 e (0:Int))
 then Q aO ⟨[(.cells [ax,(aI b),(ak a),(ak e)])], []⟩
 else (bif decide (n<(0:Int))
 then Q aO ⟨[(.cells [ax,(aI b),(ak a),du])], []⟩
 else (bif decide (n>(↑(List.length b):Int))
 then Q aO ⟨[(.cells [ax,(aI b),(ak a),eL])], []⟩
 else (bo Tryz.prog (fun _=> .none) (.slice 22 (.tmp 29) .none (.some (.tmp 30)) (.some (.tmp 31))) [(29,(aI b)),(30,(ak n)),(31,(ak n))] (aI (List.take k b))∧
 (bo Tryz.prog (fun _=> .none) (.slice 22 (.tmp 38) (.some (.tmp 39)) .none .none) [(38,(aI b)),(39,(ak n))] (aI (List.drop k b))∧
 Q (aI (List.take k b)) ⟨[(.cells [ax,(aI (List.drop k b)),(ak (IntKind.wrap IntKind.i64 (a+n))),(ak e)])], []⟩))))):=by kernel_rfl
theorem O5 (b c:Bs) (n m:Int) (Q:TV→VT→Prop):au Tryz.prog ae br (bc [(999998, .dead,none),(10, .vec 1 c .none,none)]) 300 (TZ c m (aH Tryz.prog jB 0)) 0 jB [.vec 1 b .none, .val (.int .i64 n)] aG Q=
 (bo Tryz.prog (fun _=> .none) (.slice 22 (.tmp 8) .none (.some (.tmp 9)) .none) [(8,(aI b)),(9,(ak n))] (aI c)∧
 ((aH Tryz.prog jB (0:Nat)=aH Tryz.prog jB (0:Nat))∧
 (((@Eq (Option Nat) .none .none)∧
 ((@Eq (Nat) 0 0)∧
 ((@Eq (List Nat) [] [])∧
 (True  ∧
 ((@Eq (VT) aG aG)∧
 ((@Eq (Bool) true true)∧
 (@Eq (List TV) [(.val (.int .u64 0)),(aI c),(ak (↑(List.length c):Int)),aD] [(.val (.int .u64 0)),(aI c),(ak (↑(List.length c):Int)),aD])))))))∧
 Q (vw m) aG))):=by kernel_rfl
theorem CJ (b:Bs) (n z:Int) (j:Nat) (Q:Exit→List TV→VT→List Nat→Nat→Prop):vx Tryz.prog ae br (bc [(999998, .dead,none),(14, .elt (bT z),none)]) 300 aK none 0 (cI Tryz.prog jB 0) (aR 23 AC (AD b n j)) aG [] (dm AC Q)=
 (bif decide ((↑j:Int)<(↑(List.length b):Int))
 then (bo Tryz.prog (fun _=> .none) (.indexAddr 22 (.tmp 10) (.tmp 12)) [(10,(aI b)),(12,(ak (↑j:Int)))] (.elt [(bH z)])∧
 Q .normal [(vw (IntKind.wrap IntKind.u64 (↑(BitVec.toNat (BitVec.ofInt (IntKind.bits IntKind.u64) (IntKind.wrap IntKind.u64 (n*(2:Int)^min (Int.toNat (8:Int)) (IntKind.bits IntKind.u64))) ||| BitVec.ofInt (IntKind.bits IntKind.u64) (IntKind.wrap IntKind.u64 z))):Int))),(aI b),(ak (↑(List.length b):Int)),(ak (IntKind.wrap IntKind.i64 ((↑j:Int)+(1:Int))))] aG [] 23)
 else Q (.exit 0) [(vw n),(aI b),(ak (↑(List.length b):Int)),(ak (↑j:Int))] aG [] 23):=by kernel_rfl
theorem O6 (b:Bs) (a e n:Int) (Q:TV→VT→Prop):au Tryz.prog ae (aC [(wS,EE),(jB,tY)]) aT 300 aK 0 tX [.ptr 0 0, .val (.int .i64 n)] (dv (aE b a e)) Q=
 (((@Eq (Bool) true true)∧
 IsB (b))∧
 (bif decide ((↑(List.length (bR n b e)):Int)<n)
 then Q (.val (.int .u64 0)) ⟨[(.cells [ax,(aI (aA n b e)),(ak (bt n b e a)),(ak (aB n b e))])], []⟩
 else ((IsB (bR n b e)∧
 (qZ (n)∧
 q8 (n) (bR n b e)))∧
 Q (vw (cj n (bR n b e))) ⟨[(.cells [ax,(aI (aA n b e)),(ak (bt n b e a)),(ak (aB n b e))])], []⟩))):=by kernel_rfl
theorem O7 (b:Bs) (a e n:Int) (Q:TV→VT→Prop):au Tryz.prog ae (aC [(wS,EE),(xW,oY)]) aT 300 aK 0 jd [.ptr 0 0, .val (.int .i64 n)] (dv (aE b a e)) Q=
 (((@Eq (Bool) true true)∧
 IsB (b))∧
 (IsB (bR n b e)∧
 Q (aI (bR n b e)) ⟨[(.cells [ax,(aI (aA n b e)),(ak (bt n b e a)),(ak (aB n b e))])], []⟩)):=by kernel_rfl
theorem O8 (b:Bs) (a e n:Int) (Q:TV→VT→Prop):au Tryz.prog ae (aC [(wS,EE),(lM,gD)]) aT 300 aK 0 EC [.ptr 0 0, .val (.int .i64 n)] (dv (aE b a e)) Q=
 (((@Eq (Bool) true true)∧
 IsB (b))∧
 (IsB (bR n b e)∧
 Q (.ptr 1 0) ⟨[(.cells [ax,(aI (aA n b e)),(ak (bt n b e a)),(ak (aB n b e))]),(.cells [ax,(aI (bR n b e)),aD,aD])], []⟩)):=by kernel_rfl
theorem O9 (b:Bs) (a e:Int) (Q:TV→VT→Prop):au Tryz.prog ae br aT 300 aK 0 jA [.ptr 0 0] (dv (aE b a e)) Q=
 (bif !av BinOp.eql (k6 e (0:Int))
 then Q aD ⟨[(.cells [ax,(aI b),(ak a),(ak e)])], []⟩
 else Q (ak (↑(List.length b):Int)) ⟨[(.cells [ax,(aI b),(ak a),(ak e)])], []⟩):=by kernel_rfl
theorem Pa (b:Bs) (a e:Int) (Q:TV→VT→Prop):au Tryz.prog ae br aT 300 aK 0 iu [.ptr 0 0] (dv (aE b a e)) Q=
Q (ak e) ⟨[(.cells [ax,(aI b),(ak a),(ak e)])], []⟩:=by kernel_rfl
theorem Pb (b:Bs) (a e:Int) (Q:TV→VT→Prop):au Tryz.prog ae (aC [(jA,lS),(jd,Au)]) aT 300 aK 0 ED [.ptr 0 0] (dv (aE b a e)) Q=
 (((@Eq (Bool) true true)∧
 IsB (b))∧
 (((@Eq (Bool) true true)∧
 IsB (b))∧
 Q (aI (bR (bp b e) b e)) ⟨[(.cells [ax,(aI (aA (bp b e) b e)),(ak (bt (bp b e) b e a)),(ak (aB (bp b e) b e))])], []⟩)):=by kernel_rfl
theorem Pc (b:Bs) (a e:Int) (Q:TV→VT→Prop):au Tryz.prog ae (aC [(tX,wT)]) aT 300 aK 0 gU [.ptr 0 0] (dv (aE b a e)) Q=
 (((@Eq (Bool) true true)∧
 (IsB (b)∧
 qZ 1))∧
 Q (ak (IntKind.wrap IntKind.i64 (lR (1:Int) b e))) ⟨[(.cells [ax,(aI (aA (1:Int) b e)),(ak (bt (1:Int) b e a)),(ak (aB (1:Int) b e))])], []⟩):=by kernel_rfl
theorem Mk (b:Bs) (a e:Int) (Q:TV→VT→Prop):au Tryz.prog ae (aC [(tX,wT)]) aT 300 aK 0 lr [.ptr 0 0] (dv (aE b a e)) Q=
 (((@Eq (Bool) true true)∧
 (IsB (b)∧
 qZ 2))∧
 Q (ak (IntKind.wrap IntKind.i64 (lR (2:Int) b e))) ⟨[(.cells [ax,(aI (aA (2:Int) b e)),(ak (bt (2:Int) b e a)),(ak (aB (2:Int) b e))])], []⟩):=by kernel_rfl
theorem Ml (b:Bs) (a e:Int) (Q:TV→VT→Prop):au Tryz.prog ae (aC [(tX,wT)]) aT 300 aK 0 y9 [.ptr 0 0] (dv (aE b a e)) Q=
 (((@Eq (Bool) true true)∧
 (IsB (b)∧
 qZ 4))∧
 Q (ir (IntKind.wrap IntKind.u32 (lR (4:Int) b e))) ⟨[(.cells [ax,(aI (aA (4:Int) b e)),(ak (bt (4:Int) b e a)),(ak (aB (4:Int) b e))])], []⟩):=by kernel_rfl
theorem Mm (b:Bs) (Q:TV→VT→Prop):au Tryz.prog ae (aC [(jB,tY)]) (bc [(999998, .dead,none),(12, .vec 1 b .none,none)]) 300 aK 0 sK [.vec 1 b .none, .val (.int .i64 0)] aG Q=
 (bif !decide ((0:Int)≤IntKind.wrap IntKind.i64 ((↑(List.length b):Int)-(4:Int)))
 then Q (.tup [cl,aj]) aG
 else (bo Tryz.prog (fun _=> .none) (.slice 22 (.tmp 10) (.some (.tmp 11)) .none .none) [(10,(aI b)),(11,aD)] (aI b)∧
 ((IsB (b)∧
 (qZ 4∧
 q8 4 (b)))∧
 Q (.tup [(ir (IntKind.wrap IntKind.u32 (cj (4:Int) b))),ax]) aG))):=by kernel_rfl
end
section
open Go.RowKit

theorem ac:Tryz.prog.follows .mixedOrders=true:=by kernel_rfl
theorem aa:fG Tryz.prog=true:=by kernel_rfl
theorem aq:dl ae:=fun _ _ h=>by cases h
theorem ec (q:IntKind) (x y:Int):av BinOp.eql (aP (.int q x) (.int q y))=decide (x=y):=by
 simp [av,aP,ci,Bool.beq_eq_decide_eq]
theorem dy (q:IntKind) (x y:Int):av BinOp.neq (aP (.int q x) (.int q y))= !decide (x=y):=by
 simp [av,aP,ci,Bool.beq_eq_decide_eq]
theorem dn:∃inf:TypeInfo,Tryz.prog.info? 5=some inf∧inf.size=1∧inf.bytes+1=2∧inf.zero=some (.int .u8 0):=
 ⟨(Tryz.prog.info? 5).getD default,by kernel_rfl,by kernel_rfl,by kernel_rfl,by kernel_rfl⟩
section
variable {x i m:Operand} {l:List (Nat × TV)} {b:Bs} {tok:Tok} {k k' :IntKind} {z z' :Int} {e:List TV} {n n' :Nat}
theorem wU (hx:aS ae l x= .vec 1 b tok) (hz:aS ae l i= .val (.int k z)) (h0:0≤z) (he:b[z.toNat]?=some e):
  bo Tryz.prog ae (.indexAddr 22 x i) l (.elt e):=by
 obtain ⟨inf,i1,i2,_,_⟩:=dn
 exact gO (inf:=inf) Tryz.underlying22 i1 (by rw [i2];exact hx) hz h0 he
theorem n9 (hx:aS ae l x= .vec 1 b tok) (hz:aS ae l i= .val (.int k z)) (h0:0≤z) (hn:z.toNat=n) (he:n≤b.length):bo Tryz.prog ae (.slice 22 x none (some i) none) l (.vec 1 (b.take n) .none):=by
 subst hn
 obtain ⟨inf,i1,i2,_,_⟩:=dn
 have h:=An (inf:=inf) (P:=Tryz.prog) (G:=ae) (x:=x) (i:=i) (l:=l) (es:=b) (tok:=tok) Tryz.underlying22 i1 (by rw [i2];exact hx) hz h0 he
 rw [i2] at h
 exact h
theorem rl (hx:aS ae l x= .vec 1 b tok) (hz:aS ae l i= .val (.int k z)) (h0:0≤z) (hn:z.toNat=n) (he:n≤b.length):bo Tryz.prog ae (.slice 22 x (some i) none none) l (.vec 1 (b.drop n) tok):=by
 subst hn
 obtain ⟨inf,i1,i2,_,_⟩:=dn
 have h:=I0 (inf:=inf) (P:=Tryz.prog) (G:=ae) (x:=x) (i:=i) (l:=l) (es:=b) (tok:=tok) Tryz.underlying22 i1 (by rw [i2];exact hx) hz h0 he
 rw [i2] at h
 exact h
theorem Gi (hx:aS ae l x= .vec 1 b tok) (hz:aS ae l i= .val (.int k z)) (hm:aS ae l m= .val (.int k' z)) (h0:0≤z) (hn:z.toNat=n) (he:n≤b.length):bo Tryz.prog ae (.slice 22 x none (some i) (some m)) l (.vec 1 (b.take n) .none):=by
 subst hn
 obtain ⟨inf,i1,i2,_,_⟩:=dn
 refine ⟨?_⟩
 have h1:Nat.ble z.toNat b.length=true:=Nat.ble_eq_true_of_le he
 have h2:Nat.ble 0 z.toNat=true:=Nat.ble_eq_true_of_le (Nat.zero_le _)
 have h3:Nat.ble z.toNat z.toNat=true:=Nat.ble_eq_true_of_le (Nat.le_refl _)
 simp [bm,hx,hz,hm,my,Tryz.underlying22,i1,i2,gW,fO,h0,h1,h2,h3]
theorem iO {ro:Nat} {T T1:VT} {s:Operand} {es es2:Bs} {bn:Bool} {k n:Nat} (hs:cZ T 1 (aS ae l s)=some (es,k,n,bn,T1)) (hx:gY 1 (aS ae l x)=some es2) (hb:es.length+es2.length≤70368744177664):
    ba Tryz.prog ae ro T (.call ⟨.builtin .append, #[s,x], #[22,22]⟩) l (.vec 1 (es++es2) (.tail k (n+es2.length))) {T1 with tails:=T1.tails.set k (n+es2.length,1,bn)}:=by
  obtain ⟨inf,i1,i2,i3,i4⟩:=dn
  have h:=gj (inf:=inf) (P:=Tryz.prog) (G:=ae) (ro:=ro) (T:=T) (T1:=T1) (t:=22) (tx:=22) (s:=s) (x:=x) (l:=l) (es:=es) (es2:=es2) (k:=k) (n:=n) (bn:=bn) Tryz.underlying22 i1 i4 (by rw [i2];rfl) (by rw [i2];decide) (by kernel_rfl) (by rw [i2];exact hs) (by rw [i2];exact hx)
    (by rw [i3];omega)
  rw [i2] at h
  exact h
end
theorem Ji {ro:Nat} (objs:List VO) (c:Bs) (hc:c.length≤1000000) (s x:Nat) (hne:Nat.beq s x=false):ba Tryz.prog ae ro ⟨objs, []⟩ (.call ⟨.builtin .append, #[.tmp s, .tmp x], #[22,22]⟩) [(s, .vec 1 [] .full),(x, .vec 1 c .none)] (.vec 1 c (.tail 0 c.length)) ⟨objs, [(c.length,1,false)]⟩:=by
 have h:=iO (ro:=ro) (T:=⟨objs, []⟩) (T1:=⟨objs, [(0,1,false)]⟩) (s:= .tmp s) (x:= .tmp x) (l:= [(s, .vec 1 [] .full),(x, .vec 1 c .none)]) (es:= []) (es2:=c) (k:=0) (n:=0) (bn:=false)
  (by simp [aS,ea,cZ]) (by simp [aS,ea,hne,gY]) (by simp only [List.length_nil];omega)
 simp only [List.nil_append,Nat.zero_add] at h
 exact h
theorem Pd {b:Bs} (hb:IsB b):VCx Tryz.prog ae 0 xW [.vec 1 b .none] ⟨[], []⟩ fun x T' =>x= .vec 1 b .none∧T' =⟨[], []⟩:=by
 refine VCx.asVec (Q:=fun T' =>T' =⟨[], []⟩) (VCx.keepQ 0 0 (Nat.le_refl _) (Nat.le_refl _) ?_)
 cases b with
 | nil=>exact ai ac aa an ah (O1 _) ⟨⟨.inl ⟨rfl,rfl⟩,rfl⟩,⟨.inr ⟨_,rfl⟩,rfl⟩⟩
 | cons r b=>
  refine ai ac aa an ah (O2 r b _) ⟨Ji [] (r::b) hb.small 5 6 rfl, .inr ⟨.none, ?_⟩,rfl⟩
  have:=hb.ren (aw 0) (aw 0)
  simp only [TV.ren,Tok.ren]
  rw [show [r]++b=r::b from rfl,this];rfl
theorem rp:∀ro ys T K,oY ro ys T K→VCx Tryz.prog ae ro xW ys T K:=by
 intro ro ys T K hw
 unfold oY at hw
 split at hw
 ·rename_i b tok
  obtain ⟨hb,hk⟩:=hw
  exact VCx.loosePure aq (Pd hb) (by simp [bG]) (by simp [ar,TV.ren,hb.ren,Tok.ren]) (fun f h=>by simp only [TV.ren,hb.ren,Tok.ren]) hk
 ·exact hw.elim
theorem Mn {b:Bs} (hb:IsB b):VCx Tryz.prog ae 0 lM [.vec 1 b .none] ⟨[], []⟩ fun x T' =>x= .ptr 0 0∧T' =⟨[aE b 0 0], []⟩:=
 ai ac aa (aJ fun p hp=>by obtain rfl:=List.mem_singleton.1 hp;exact rp) ah (O3 b _) ⟨hb,rfl,rfl⟩
theorem mE:∀ro ys T K,gD ro ys T K→VCx Tryz.prog ae ro lM ys T K:=Gf aq fun _ hb=>Mn hb
def xX (n:Int) (b:Bs) (a e:Int):VT:=⟨[aE (aA n b e) (bt n b e a) (aB n b e)], []⟩
theorem Mo (b:Bs) (a e n:Int):VCx Tryz.prog ae 0 wS [.ptr 0 0, .val (.int .i64 n)] ⟨[aE b a e], []⟩ fun x T' =>x= .vec 1 (bR n b e) .none∧T' =xX n b a e:=by
  refine VCx.asVec (Q:=fun T' =>T' =xX n b a e) (ai ac aa an ah (O4 b a e n n.toNat _) ?_)
  by_cases he:e=0
  · subst he
    have he:(0:Int)=0:=rfl
    refine aM (by rw [ec,decide_eq_true he];rfl) ?_
    by_cases hn:n<0
    · have hk:cn n b 0=false:=by simp only [cn,Bool.and_eq_false_iff,decide_eq_false_iff_not];omega
      refine aQ (decide_eq_true hn) ⟨.inl ⟨rfl,by simp only [bR,hk,cond_false]⟩, ?_⟩
      simp only [xX,aA,bt,aB,hk,cond_false,decide_true,decide_eq_true hn,cond_true];rfl
    · refine aM (decide_eq_false hn) ?_
      by_cases hl:n≤b.length
      · have hk:cn n b 0=true:=by simp only [cn,decide_true,decide_eq_true hl,decide_eq_true (show 0≤n by omega)];rfl
        have h1:n.toNat≤b.length:=by omega
        refine aM (decide_eq_false (by omega)) ⟨Gi rfl rfl rfl (by omega) rfl h1,rl rfl rfl (by omega) rfl h1, .inr ⟨.none,by simp only [bR,hk,cond_true]⟩, ?_⟩
        simp only [xX,aA,bt,aB,hk,decide_true,decide_eq_false hn,decide_eq_true hl,cond_true,cond_false];rfl
      · have hk:cn n b 0=false:=by simp only [cn,Bool.and_eq_false_iff,decide_eq_false_iff_not];omega
        refine aQ (decide_eq_true (by omega)) ⟨.inl ⟨rfl,by simp only [bR,hk,cond_false]⟩, ?_⟩
        simp only [xX,aA,bt,aB,hk,decide_true,decide_eq_false hn,decide_eq_false hl,cond_false,cond_true];rfl
  · have hk:cn n b e=false:=by simp only [cn,Bool.and_eq_false_iff,decide_eq_false_iff_not];omega
    refine aQ (by rw [ec,decide_eq_false he];rfl) ⟨.inl ⟨rfl,by simp only [bR,hk,cond_false]⟩, ?_⟩
    simp only [xX,aA,bt,aB,hk,decide_eq_false he,cond_false];rfl
theorem wV:∀ro ys T K,EE ro ys T K→VCx Tryz.prog ae ro wS ys T K:=Gd aq fun b a e n _=>Mo b a e n
theorem Mp {c:Bs} {j:Nat} {r:List TV} (h:c[j]?=some r):eo (c.take (j+1))=eo (c.take j)*256+eJ r:=by
 rw [List.take_add_one,h];exact Mi _ _
theorem SM {c:Bs} (h:IsB c) {j:Nat} (hj:j<8):0≤eo (c.take j)∧(j<8→eo (c.take j)<72057594037927936):=by
 obtain ⟨⟨l,hl,hz⟩,_⟩:=h.take j
 have hlen:l.length≤7:=by
  have:=congrArg List.length hl
  simp only [bV,List.length_map,List.length_take] at this
  omega
 rw [hl]
 obtain ⟨h1,h2⟩:=qY hz
 refine ⟨h1,fun _=>Int.lt_of_lt_of_le h2 ?_⟩
 have h3:(256:Int)^l.length≤256^7:=by
  exact_mod_cast Nat.pow_le_pow_right (by decide:0<256) hlen
 exact h3
theorem Gj (c:Bs) (hc:IsB c) (h8:c.length≤8) (K:KX) (hK:K .normal (aR 23 AC (AD c (eo c) c.length)) ⟨[], []⟩ []):VWx Tryz.prog ae none 0 (aH Tryz.prog jB 0) (aR 23 AC (AD c 0 0)) ⟨[], []⟩ [] K:=by
  let sl:Nat→List TV:=fun j=>AD c (eo (c.take j)) j
  let Post:Exit→List TV→VT→Prop:=fun e vs T=>e= .normal∧vs=sl c.length∧T=⟨[], []⟩
  refine dS (f:=jB) (id:=0) (by kernel_rfl) 23 AC (fun j=>c.length-j) sl (fun _=>⟨[], []⟩) (fun j=>j≤c.length) 0 0 (fun _ _=>⟨Nat.le_refl _,Nat.le_refl _⟩)
    Post (fun j hj=> ?_) 0 (Nat.zero_le _) K (fun e vs T ⟨h1,h2,h3⟩=> ?_)
  · by_cases hlt:j<c.length
    · have hs:c[j]?=some c[j]:=List.getElem?_eq_getElem hlt
      generalize c[j]=r at hs
      obtain ⟨z,rfl,hz0,hz1⟩:=hc.at hs
      have hw:=DK j (by omega)
      obtain ⟨hb0,hb1⟩:=SM hc (j:=j) (by omega)
      have hor:=cp hb0 (hb1 (by omega)) hz0 hz1
      refine b7 ac aa an ah (CJ c (eo (c.take j)) z j _) ?_
      refine aQ (decide_eq_true (by omega)) ⟨wU rfl rfl (Int.natCast_nonneg _) (by rw [Int.toNat_natCast];exact hs),rfl,rfl,j+1,hlt,by simp only;omega, .inr ⟨rfl, ?_⟩⟩
      rw [hor,hw]
      simp only [ar,TV.ren,hc.ren,Tok.ren]
      simp only [sl,AD,Mp hs,eJ,bT]
    · obtain rfl:j=c.length:=by omega
      refine b7 ac aa an ah (CJ c (eo (c.take c.length)) 0 c.length _) ?_
      exact aM (decide_eq_false (by omega)) ⟨rfl,rfl,rfl,rfl,rfl⟩
  · subst h1 h2 h3
    simp only [sl,List.take_length]
    exact hK
theorem Jj (c:Bs) (hc:IsB c) (h8:c.length≤8):dD Tryz.prog ae (TZ c (eo c) (aH Tryz.prog jB 0)):=bL fun p hp=>by
 obtain rfl:=List.mem_singleton.1 hp
 exact cA fun K hK=>Gj c hc h8 K hK
theorem Mq {b:Bs} (hb:IsB b) {n:Int} (hn:qZ n) (hl:q8 n b):VCx Tryz.prog ae 0 jB [.vec 1 b .none, .val (.int .i64 n)] ⟨[], []⟩ fun x T' =>x= .val (.int .u64 (cj n b))∧T' =⟨[], []⟩:=by
 obtain ⟨h0,h8⟩:=hn
 have h1:n.toNat≤b.length:=by unfold q8 at hl;omega
 refine ai ac aa an (Jj (b.take n.toNat) (hb.take _) (by rw [List.length_take];omega)) (O5 b (b.take n.toNat) n (eo (b.take n.toNat)) _) ?_
 exact ⟨n9 rfl rfl h0 rfl h1,rfl,⟨rfl,rfl,rfl,trivial,rfl,rfl,rfl⟩,rfl,rfl⟩
theorem wW:∀ro ys T K,tY ro ys T K→VCx Tryz.prog ae ro jB ys T K:=by
 intro ro ys T K hw
 unfold tY at hw
 split at hw
 ·rename_i b tok n
  obtain ⟨⟨hb,hn,hl⟩,hk⟩:=hw
  exact VCx.loosePure aq (Mq hb hn hl) (by simp [bG]) (by simp [ar,TV.ren,hb.ren,Tok.ren]) (fun f h=>rfl) hk
 ·exact hw.elim
theorem Mr {b:Bs} (hb:IsB b) (a e:Int) {n:Int} (hn:qZ n):VCx Tryz.prog ae 0 tX [.ptr 0 0, .val (.int .i64 n)] ⟨[aE b a e], []⟩ fun x T' =>x= .val (.int .u64 (lR n b e))∧T' =xX n b a e:=by
 refine ai ac aa (aJ fun p hp=>by rcases List.mem_cons.1 hp with rfl | hp;exact wV;obtain rfl:=List.mem_singleton.1 hp;exact wW) ah (O6 b a e n _) ⟨⟨rfl,hb⟩, ?_⟩
 by_cases h:((bR n b e).length:Int)<n
 ·exact aQ (decide_eq_true h) ⟨by rw [OE h],rfl⟩
 ·exact aM (decide_eq_false h) ⟨⟨gC hb,hn,by unfold q8;omega⟩,by rw [OD hn.1 (by omega)],rfl⟩
theorem Ms:∀ro ys T K,wT ro ys T K→VCx Tryz.prog ae ro tX ys T K:=by
 intro ro ys T K hw
 unfold wT at hw
 split at hw
 ·rename_i k n
  split at hw
  ·rename_i b a e ho
   obtain ⟨⟨hro,hb,hn⟩,hk⟩:=hw
   refine VCx.at1 (Q:=fun x o' l' =>x= .val (.int .u64 (lR n b e))∧o' =aE (aA n b e) (bt n b e a) (aB n b e)∧l' = []) aq (Nat.le_of_ble_eq_true hro) ho rfl (bC hb a e _ _) (ys1:= [.ptr 0 0, .val (.int .i64 n)]) (by simp [ar,TV.ren,bb]) ((Mr hb a e hn).mono fun x T' ⟨h1,h2⟩=>⟨_,_,h2,h1,rfl,rfl⟩) ?_
   rintro x o' l' ⟨rfl,rfl,rfl⟩
   rw [bC (aF hb)]
   simpa [TV.ren] using hk
  ·exact hw.elim
 ·exact hw.elim
theorem AE {f:FuncId} {kind:IntKind} {n:Nat} (hn:qZ n) (hw:∀z:Int,0≤z→z<256^n→kind.wrap z=z)
  (h:∀(b:Bs) (a e:Int) (Q:TV→VT→Prop),IsB b→Q (.val (.int kind (kind.wrap (lR n b e)))) (xX n b a e)→VCx Tryz.prog ae 0 f [.ptr 0 0] ⟨[aE b a e], []⟩ Q):
  ∀ro ys T K,kB kind n ro ys T K→VCx Tryz.prog ae ro f ys T K:=OF aq fun b a e hb=>by
 obtain ⟨h1,h2⟩:=As (n:=n) hb e
 exact h b a e _ hb ⟨by rw [hw _ h1 h2,Ar],rfl⟩
theorem AF:aZ Tryz.prog ae (aC [(tX,wT)]):=aJ fun p hp=>by obtain rfl:=List.mem_singleton.1 hp;exact Ms
theorem oZ:∀ro ys T K,kB .i64 1 ro ys T K→VCx Tryz.prog ae ro gU ys T K:=
 AE ⟨by decide,by decide⟩ (fun z h0 h1=>by simp only [IntKind.wrap,IntKind.bits,IntKind.signed];simp;omega) fun b a e _ hb hq=>ai ac aa AF ah (Pc b a e _) ⟨⟨rfl,hb,⟨by decide,by decide⟩⟩,hq⟩
theorem sL:∀ro ys T K,kB .i64 2 ro ys T K→VCx Tryz.prog ae ro lr ys T K:=
 AE ⟨by decide,by decide⟩ (fun z h0 h1=>by simp only [IntKind.wrap,IntKind.bits,IntKind.signed];simp;omega) fun b a e _ hb hq=>ai ac aa AF ah (Mk b a e _) ⟨⟨rfl,hb,⟨by decide,by decide⟩⟩,hq⟩
theorem Mt:∀ro ys T K,kB .u32 4 ro ys T K→VCx Tryz.prog ae ro y9 ys T K:=
 AE ⟨by decide,by decide⟩ (fun z h0 h1=>by simp only [IntKind.wrap,IntKind.bits,IntKind.signed];simp;omega) fun b a e _ hb hq=>ai ac aa AF ah (Ml b a e _) ⟨⟨rfl,hb,⟨by decide,by decide⟩⟩,hq⟩
theorem rq:∀ro ys T K,Au ro ys T K→VCx Tryz.prog ae ro jd ys T K:=Gd aq fun b a e n hb=>
 ai ac aa (aJ fun p hp=>by rcases List.mem_cons.1 hp with rfl | hp;exact wV;obtain rfl:=List.mem_singleton.1 hp;exact rp) ah (O7 b a e n _) ⟨⟨rfl,hb⟩,gC hb,rfl,rfl⟩
theorem Pe:∀ro ys T K,vp ro ys T K→VCx Tryz.prog ae ro EC ys T K:=I2 aq fun b a e n hb=>
 ai ac aa (aJ fun p hp=>by rcases List.mem_cons.1 hp with rfl | hp;exact wV;obtain rfl:=List.mem_singleton.1 hp;exact mE) ah (O8 b a e n _) ⟨⟨rfl,hb⟩,gC hb,rfl,rfl⟩
theorem nc:∀ro ys T K,lS ro ys T K→VCx Tryz.prog ae ro jA ys T K:=OG aq fun b a e hb=>by
 refine ai ac aa an ah (O9 b a e _) ?_
 by_cases he:e=0
 ·exact aM (by rw [ec,decide_eq_true he];rfl) ⟨by simp only [bp,decide_eq_true he,cond_true],rfl⟩
 ·exact aQ (by rw [ec,decide_eq_false he];rfl) ⟨by simp only [bp,decide_eq_false he,cond_false],rfl⟩
theorem o5:∀ro ys T K,kC ro ys T K→VCx Tryz.prog ae ro iu ys T K:=OH aq fun b a e _=>
 ai ac aa an ah (Pa b a e _) ⟨rfl,rfl⟩
theorem Pf:∀ro ys T K,q9 ro ys T K→VCx Tryz.prog ae ro ED ys T K:=Ge aq fun b a e hb=>
 ai ac aa (aJ fun p hp=>by rcases List.mem_cons.1 hp with rfl | hp;exact nc;obtain rfl:=List.mem_singleton.1 hp;exact rq) ah (Pb b a e _) ⟨⟨rfl,hb⟩,⟨rfl,hb⟩,rfl,rfl⟩
end
section
open Go.RowKit

theorem bP {z:Int} (h0:-1000000000000000≤z) (h1:z≤1000000000000000):IntKind.i64.wrap z=z:=by
 simp only [IntKind.wrap,IntKind.bits,IntKind.signed];simp;omega
end
section
open Go.RowKit

abbrev dN:=102
def Gk (k n:Nat):List Int:=(cU n k).map fun z:Nat=>(z:Int)
def rt (k n:Nat):Bs:=bV (Gk k n)
theorem CL (k n:Nat):(rt k n).length=k:=by simp [rt,bV,Gk,cU]
theorem Pg (k n:Nat):∀z∈Gk k n,0≤z∧z<256:=by
 intro z hz
 obtain ⟨m,hm,rfl⟩:=List.mem_map.1 hz
 obtain ⟨i,_,rfl⟩:=List.mem_map.1 hm
 have:n/2^(8*(k-1-i))%256<256:=Nat.mod_lt _ (by decide)
 omega
theorem AG {k n:Nat} (hk:k≤8):IsB (rt k n):=⟨⟨_,rfl,Pg k n⟩,by rw [CL];omega⟩
theorem ru (k n:Nat):ii (cU n k)=gt (Gk k n):=by simp [ii,gt,Gk,Function.comp_def]
theorem Mu {b:Bs} (hb:IsB b) (hne:b≠ []) (tok:Tok) {n k:Nat} (hk:k≤8):VCx Tryz.prog ae 0 dN [.vec 1 b tok, .val (.int .u64 n), .val (.int .i64 k)] ⟨[], []⟩ fun x T' =>x= .vec 1 (b++rt k n) .none∧T' =⟨[], []⟩:=by
  obtain ⟨⟨l,rfl,hl⟩,hlen⟩:=hb
  have hne2:l≠ []:=fun h=>hne (by rw [h];rfl)
  have hll:(bV l).length=l.length:=by simp [bV]
  rw [hll] at hlen
  have hvs:(gt l++ii (cU n k)).length=l.length+k:=by simp [gt,ii,cU]
  have h:=VCx.ofOwn (P:=Tryz.prog) (G:=ae) (f:=dN) (xs:= [.vec 1 (bV l) tok, .val (.int .u64 n), .val (.int .i64 k)]) (ty:=5) (vs:=gt l++ii (cU n k)) (fun v hv=> ?_) (by rw [hvs];unfold maxLen;omega) (fun g w us hx=> ?_)
  · refine h.mono ?_
    rintro x T' ⟨rfl,rfl⟩
    refine ⟨?_,rfl⟩
    rw [List.map_append,←jU,ru,←jU];rfl
  · rcases List.mem_append.1 hv with hv | hv
    · obtain ⟨z,_,rfl⟩:=List.mem_map.1 hv;rfl
    · obtain ⟨z,_,rfl⟩:=List.mem_map.1 hv;rfl
  · match us,hx.1 with
    | [v,u1,u2],_=>
      have hv:=hx.2 0 _ v rfl rfl
      obtain rfl:=(hx.2 1 _ u1 rfl rfl).val_inv
      obtain rfl:=(hx.2 2 _ u2 rfl rfl).val_inv
      have:=At v l.length (gt l) (fun u hu=>by obtain ⟨z,_,rfl⟩:=List.mem_map.1 hu;rfl) n k hk (by omega) w (Gb hv hne2)
      rw [hvs];exact this
theorem Jk {n k:Nat} (hk:k≤8):VCx Tryz.prog ae 0 dN [.val (.slice none 0 0), .val (.int .u64 n), .val (.int .i64 k)] ⟨[], []⟩ fun x T' =>x= .vec 1 (rt k n) .none∧T' =⟨[], []⟩:=by
 have hvs:(ii (cU n k)).length=k:=by simp [ii,cU]
 have h:=VCx.ofRetsT (P:=Tryz.prog) (G:=ae) (f:=dN) (xs:= [.val (.slice none 0 0), .val (.int .u64 n), .val (.int .i64 k)]) (us:= [.slice none 0 0, .int .u64 n, .int .i64 k]) rfl (ty:=5) (vs:=ii (cU n k)) (fun v hv=>by obtain ⟨z,_,rfl⟩:=List.mem_map.1 hv;rfl) (by rw [hvs];unfold maxLen;omega) (fun w=>by
  have:=At (.slice none 0 0) 0 [] (by simp) n k hk (by omega) w (Rd.nil w 1)
  rw [hvs]
  simpa using this)
 refine h.mono ?_
 rintro x T' ⟨rfl,rfl⟩
 refine ⟨?_,rfl⟩
 rw [ru,←jU];rfl
end
section
open Go.RowKit

def kD (n:Int):Prop:=0≤n∧n≤32
def CM (n:Int):Int:=4294967296-2^(32-n).toNat
def hJ (a n:Int):Int:=IntKind.wrap .u32 (BitVec.toNat (BitVec.ofInt (IntKind.bits .u32) a&&&BitVec.ofInt (IntKind.bits .u32) (CM n)):Nat)

abbrev cD:=157
abbrev ko:=140
abbrev kp:=116
abbrev nd:=83
def Ph:aV:=fun _ ys T K=>match ys with
 | [.val (.int .i64 n)]=>kD n∧K (.val (.int .u32 (CM n))) T
 | _=>False
def xY:aV:=fun _ ys T K=>match ys with
 | [.agg [.val (.int .u32 a), .val (.int .i64 n)]]=>kD n∧K (.agg [.val (.int .u32 (hJ a n)), .val (.int .i64 n)]) T
 | _=>False
def xZ (l:Bs):aV:=fun ro ys T K=>match ys with
 | [.ptr k 0, .val (.int .i64 n)]=>match T.objs[k]? with
  | some (.cells [.val (.bool true), .vec 1 b .none, .val (.int .i64 a), .val (.int .i64 e)])=>((Nat.ble ro k=true∧IsB b)∧bR n b e=l)∧K (.vec 1 l .none) {T with objs:=T.objs.set k (aE (aA n b e) (bt n b e a) (aB n b e))}
  | _=>False
 | _=>False
theorem Mv (Q:TV→VT→Prop):au Tryz.prog ae br aT 300 aK 0 cD [.val (.int .i64 0)] aG Q=
Q cl aG:=by kernel_rfl
theorem Mw (Q:TV→VT→Prop):au Tryz.prog ae br aT 300 aK 0 cD [.val (.int .i64 1)] aG Q=
Q (.val (.int .u32 2147483648)) aG:=by kernel_rfl
theorem Mx (Q:TV→VT→Prop):au Tryz.prog ae br aT 300 aK 0 cD [.val (.int .i64 2)] aG Q=
Q (.val (.int .u32 3221225472)) aG:=by kernel_rfl
theorem My (Q:TV→VT→Prop):au Tryz.prog ae br aT 300 aK 0 cD [.val (.int .i64 3)] aG Q=
Q (.val (.int .u32 3758096384)) aG:=by kernel_rfl
theorem Mz (Q:TV→VT→Prop):au Tryz.prog ae br aT 300 aK 0 cD [.val (.int .i64 4)] aG Q=
Q (.val (.int .u32 4026531840)) aG:=by kernel_rfl
theorem MA (Q:TV→VT→Prop):au Tryz.prog ae br aT 300 aK 0 cD [.val (.int .i64 5)] aG Q=
Q (.val (.int .u32 4160749568)) aG:=by kernel_rfl
theorem MB (Q:TV→VT→Prop):au Tryz.prog ae br aT 300 aK 0 cD [.val (.int .i64 6)] aG Q=
Q (.val (.int .u32 4227858432)) aG:=by kernel_rfl
theorem MC (Q:TV→VT→Prop):au Tryz.prog ae br aT 300 aK 0 cD [.val (.int .i64 7)] aG Q=
Q (.val (.int .u32 4261412864)) aG:=by kernel_rfl
theorem MD (Q:TV→VT→Prop):au Tryz.prog ae br aT 300 aK 0 cD [.val (.int .i64 8)] aG Q=
Q (.val (.int .u32 4278190080)) aG:=by kernel_rfl
theorem ME (Q:TV→VT→Prop):au Tryz.prog ae br aT 300 aK 0 cD [.val (.int .i64 9)] aG Q=
Q (.val (.int .u32 4286578688)) aG:=by kernel_rfl
theorem Jl (Q:TV→VT→Prop):au Tryz.prog ae br aT 300 aK 0 cD [.val (.int .i64 10)] aG Q=
Q (.val (.int .u32 4290772992)) aG:=by kernel_rfl
theorem Jm (Q:TV→VT→Prop):au Tryz.prog ae br aT 300 aK 0 cD [.val (.int .i64 11)] aG Q=
Q (.val (.int .u32 4292870144)) aG:=by kernel_rfl
theorem Jn (Q:TV→VT→Prop):au Tryz.prog ae br aT 300 aK 0 cD [.val (.int .i64 12)] aG Q=
Q (.val (.int .u32 4293918720)) aG:=by kernel_rfl
theorem Jo (Q:TV→VT→Prop):au Tryz.prog ae br aT 300 aK 0 cD [.val (.int .i64 13)] aG Q=
Q (.val (.int .u32 4294443008)) aG:=by kernel_rfl
theorem Jp (Q:TV→VT→Prop):au Tryz.prog ae br aT 300 aK 0 cD [.val (.int .i64 14)] aG Q=
Q (.val (.int .u32 4294705152)) aG:=by kernel_rfl
theorem Jq (Q:TV→VT→Prop):au Tryz.prog ae br aT 300 aK 0 cD [.val (.int .i64 15)] aG Q=
Q (.val (.int .u32 4294836224)) aG:=by kernel_rfl
theorem Jr (Q:TV→VT→Prop):au Tryz.prog ae br aT 300 aK 0 cD [.val (.int .i64 16)] aG Q=
Q (.val (.int .u32 4294901760)) aG:=by kernel_rfl
theorem Js (Q:TV→VT→Prop):au Tryz.prog ae br aT 300 aK 0 cD [.val (.int .i64 17)] aG Q=
Q (.val (.int .u32 4294934528)) aG:=by kernel_rfl
theorem Jt (Q:TV→VT→Prop):au Tryz.prog ae br aT 300 aK 0 cD [.val (.int .i64 18)] aG Q=
Q (.val (.int .u32 4294950912)) aG:=by kernel_rfl
theorem Ju (Q:TV→VT→Prop):au Tryz.prog ae br aT 300 aK 0 cD [.val (.int .i64 19)] aG Q=
Q (.val (.int .u32 4294959104)) aG:=by kernel_rfl
theorem Jv (Q:TV→VT→Prop):au Tryz.prog ae br aT 300 aK 0 cD [.val (.int .i64 20)] aG Q=
Q (.val (.int .u32 4294963200)) aG:=by kernel_rfl
theorem Jw (Q:TV→VT→Prop):au Tryz.prog ae br aT 300 aK 0 cD [.val (.int .i64 21)] aG Q=
Q (.val (.int .u32 4294965248)) aG:=by kernel_rfl
theorem Jx (Q:TV→VT→Prop):au Tryz.prog ae br aT 300 aK 0 cD [.val (.int .i64 22)] aG Q=
Q (.val (.int .u32 4294966272)) aG:=by kernel_rfl
theorem Jy (Q:TV→VT→Prop):au Tryz.prog ae br aT 300 aK 0 cD [.val (.int .i64 23)] aG Q=
Q (.val (.int .u32 4294966784)) aG:=by kernel_rfl
theorem Jz (Q:TV→VT→Prop):au Tryz.prog ae br aT 300 aK 0 cD [.val (.int .i64 24)] aG Q=
Q (.val (.int .u32 4294967040)) aG:=by kernel_rfl
theorem JA (Q:TV→VT→Prop):au Tryz.prog ae br aT 300 aK 0 cD [.val (.int .i64 25)] aG Q=
Q (.val (.int .u32 4294967168)) aG:=by kernel_rfl
theorem JB (Q:TV→VT→Prop):au Tryz.prog ae br aT 300 aK 0 cD [.val (.int .i64 26)] aG Q=
Q (.val (.int .u32 4294967232)) aG:=by kernel_rfl
theorem JC (Q:TV→VT→Prop):au Tryz.prog ae br aT 300 aK 0 cD [.val (.int .i64 27)] aG Q=
Q (.val (.int .u32 4294967264)) aG:=by kernel_rfl
theorem JD (Q:TV→VT→Prop):au Tryz.prog ae br aT 300 aK 0 cD [.val (.int .i64 28)] aG Q=
Q (.val (.int .u32 4294967280)) aG:=by kernel_rfl
theorem JE (Q:TV→VT→Prop):au Tryz.prog ae br aT 300 aK 0 cD [.val (.int .i64 29)] aG Q=
Q (.val (.int .u32 4294967288)) aG:=by kernel_rfl
theorem JF (Q:TV→VT→Prop):au Tryz.prog ae br aT 300 aK 0 cD [.val (.int .i64 30)] aG Q=
Q (.val (.int .u32 4294967292)) aG:=by kernel_rfl
theorem JG (Q:TV→VT→Prop):au Tryz.prog ae br aT 300 aK 0 cD [.val (.int .i64 31)] aG Q=
Q (.val (.int .u32 4294967294)) aG:=by kernel_rfl
theorem JH (Q:TV→VT→Prop):au Tryz.prog ae br aT 300 aK 0 cD [.val (.int .i64 32)] aG Q=
Q (.val (.int .u32 4294967295)) aG:=by kernel_rfl
theorem Gl (a n:Int) (Q:TV→VT→Prop):au Tryz.prog ae (aC [(cD,Ph)]) (bc [(999999, .dead,none)]) 300 aK 0 ko [.agg [.val (.int .u32 a), .val (.int .i64 n)]] aG Q=
 (kD (if (32:Int)<if (0:Int)>n then (0:Int) else n then (32:Int) else if (0:Int)>n then (0:Int) else n)∧
 Q (.agg [(ir (IntKind.wrap IntKind.u32 (↑(BitVec.toNat (BitVec.ofInt (IntKind.bits IntKind.u32) a&&&BitVec.ofInt (IntKind.bits IntKind.u32) (CM (if (32:Int)<if (0:Int)>n then (0:Int) else n then (32:Int) else if (0:Int)>n then (0:Int) else n)))):Int))),(ak (if (32:Int)<if (0:Int)>n then (0:Int) else n then (32:Int) else if (0:Int)>n then (0:Int) else n))]) ⟨[(mi a n),(mi (IntKind.wrap IntKind.u32 (↑(BitVec.toNat (BitVec.ofInt (IntKind.bits IntKind.u32) a&&&BitVec.ofInt (IntKind.bits IntKind.u32) (CM (if (32:Int)<if (0:Int)>n then (0:Int) else n then (32:Int) else if (0:Int)>n then (0:Int) else n)))):Int)) (if (32:Int)<if (0:Int)>n then (0:Int) else n then (32:Int) else if (0:Int)>n then (0:Int) else n))], []⟩):=by kernel_rfl
abbrev jC (b:Bs) (e:Int) (a:Int):TV:=(ak (bt (IntKind.wrap IntKind.i64 (Int.tdiv (IntKind.wrap IntKind.i64 (IntKind.wrap IntKind.i64 (aL (1:Nat) b e+(8:Int))-(1:Int))) (8:Int))) (aA (↑(1:Nat):Int) b e) (aB (↑(1:Nat):Int) b e) (bt (↑(1:Nat):Int) b e a)))
abbrev jD (b:Bs) (e:Int):TV:=(aI (aA (IntKind.wrap IntKind.i64 (Int.tdiv (IntKind.wrap IntKind.i64 (IntKind.wrap IntKind.i64 (aL (1:Nat) b e+(8:Int))-(1:Int))) (8:Int))) (aA (↑(1:Nat):Int) b e) (aB (↑(1:Nat):Int) b e)))
abbrev jE (b:Bs) (e:Int):TV:=(ak (aB (IntKind.wrap IntKind.i64 (Int.tdiv (IntKind.wrap IntKind.i64 (IntKind.wrap IntKind.i64 (aL (1:Nat) b e+(8:Int))-(1:Int))) (8:Int))) (aA (↑(1:Nat):Int) b e) (aB (↑(1:Nat):Int) b e)))
theorem MF (b:Bs) (a e:Int) (Q:TV→VT→Prop):au Tryz.prog ae (aC [(gU,kB .i64 1),(iu,kC),(jd,xZ []),(ko,xY)]) aT 300 aK 0 kp [.ptr 0 0] (dv (aE b a e)) Q=
 (((@Eq (Bool) true true)∧
 IsB (b))∧
 (((@Eq (Bool) true true)∧
 IsB (aA (↑(1:Nat):Int) b e))∧
 (bif av BinOp.neq (k6 (aB (↑(1:Nat):Int) b e) (0:Int))
 then Q gw ⟨[(.cells [ax,(aI (aA (↑(1:Nat):Int) b e)),(ak (bt (↑(1:Nat):Int) b e a)),(ak (aB (↑(1:Nat):Int) b e))]),gv], []⟩
 else (bif decide (aL (1:Nat) b e>(32:Int))
 then Q gw ⟨[(.cells [ax,(aI (aA (↑(1:Nat):Int) b e)),(ak (bt (↑(1:Nat):Int) b e a)),(ak (aB (↑(1:Nat):Int) b e))]),gv], []⟩
 else ((((@Eq (Bool) true true)∧
 IsB (aA (↑(1:Nat):Int) b e))∧
 (@Eq (Bs) (bR (IntKind.wrap IntKind.i64 (Int.tdiv (IntKind.wrap IntKind.i64 (IntKind.wrap IntKind.i64 (aL (1:Nat) b e+(8:Int))-(1:Int))) (8:Int))) (aA (↑(1:Nat):Int) b e) (aB (↑(1:Nat):Int) b e)) []))∧
 (((@Eq (Bool) true true)∧
 IsB (aA (IntKind.wrap IntKind.i64 (Int.tdiv (IntKind.wrap IntKind.i64 (IntKind.wrap IntKind.i64 (aL (1:Nat) b e+(8:Int))-(1:Int))) (8:Int))) (aA (↑(1:Nat):Int) b e) (aB (↑(1:Nat):Int) b e)))∧
 (bif av BinOp.neq (k6 (aB (IntKind.wrap IntKind.i64 (Int.tdiv (IntKind.wrap IntKind.i64 (IntKind.wrap IntKind.i64 (aL (1:Nat) b e+(8:Int))-(1:Int))) (8:Int))) (aA (↑(1:Nat):Int) b e) (aB (↑(1:Nat):Int) b e)) (0:Int))
 then Q gw ⟨[(.cells [ax,(jD b e),(jC b e a),(jE b e)]),gv,KO], []⟩
 else (kD (aL (1:Nat) b e)∧
 Q (vv (hJ
  (IntKind.wrap IntKind.u32
    (IntKind.wrap IntKind.u64
      (↑(BitVec.toNat
            (BitVec.ofInt (IntKind.bits IntKind.u64)
                (IntKind.wrap IntKind.u64
                  (IntKind.wrap IntKind.u64
                      (↑(BitVec.toNat
                            (BitVec.ofInt (IntKind.bits IntKind.u64)
                                (IntKind.wrap IntKind.u64
                                  (IntKind.wrap IntKind.u64
                                      (↑(BitVec.toNat
                                            (BitVec.ofInt (IntKind.bits IntKind.u64)
                                                (IntKind.wrap IntKind.u64
                                                  (IntKind.wrap IntKind.u64 (↑(BitVec.toNat (BitVec.ofInt (IntKind.bits IntKind.u64) (IntKind.wrap IntKind.u64 ((0:Int)*(2:Int)^min (Int.toNat (8:Int)) (IntKind.bits IntKind.u64))) ||| BitVec.ofInt (IntKind.bits IntKind.u64) (IntKind.wrap IntKind.u64 (0:Int)))):Int)*
                                                    (2:Int)^min (Int.toNat (8:Int)) (IntKind.bits IntKind.u64))) |||
                                              BitVec.ofInt (IntKind.bits IntKind.u64) (IntKind.wrap IntKind.u64 (0:Int)))):
                                        Int)*
                                    (2:Int)^min (Int.toNat (8:Int)) (IntKind.bits IntKind.u64))) |||
                              BitVec.ofInt (IntKind.bits IntKind.u64) (IntKind.wrap IntKind.u64 (0:Int)))):
                        Int)*
                    (2:Int)^min (Int.toNat (8:Int)) (IntKind.bits IntKind.u64))) |||
              BitVec.ofInt (IntKind.bits IntKind.u64) (IntKind.wrap IntKind.u64 (0:Int)))):
        Int)))
  (aL (1:Nat) b e)) (aL (1:Nat) b e)) ⟨[(.cells [ax,(jD b e),(jC b e a),(jE b e)]),(mi (hJ
  (IntKind.wrap IntKind.u32
    (IntKind.wrap IntKind.u64
      (↑(BitVec.toNat
            (BitVec.ofInt (IntKind.bits IntKind.u64)
                (IntKind.wrap IntKind.u64
                  (IntKind.wrap IntKind.u64
                      (↑(BitVec.toNat
                            (BitVec.ofInt (IntKind.bits IntKind.u64)
                                (IntKind.wrap IntKind.u64
                                  (IntKind.wrap IntKind.u64
                                      (↑(BitVec.toNat
                                            (BitVec.ofInt (IntKind.bits IntKind.u64)
                                                (IntKind.wrap IntKind.u64
                                                  (IntKind.wrap IntKind.u64 (↑(BitVec.toNat (BitVec.ofInt (IntKind.bits IntKind.u64) (IntKind.wrap IntKind.u64 ((0:Int)*(2:Int)^min (Int.toNat (8:Int)) (IntKind.bits IntKind.u64))) ||| BitVec.ofInt (IntKind.bits IntKind.u64) (IntKind.wrap IntKind.u64 (0:Int)))):Int)*
                                                    (2:Int)^min (Int.toNat (8:Int)) (IntKind.bits IntKind.u64))) |||
                                              BitVec.ofInt (IntKind.bits IntKind.u64) (IntKind.wrap IntKind.u64 (0:Int)))):
                                        Int)*
                                    (2:Int)^min (Int.toNat (8:Int)) (IntKind.bits IntKind.u64))) |||
                              BitVec.ofInt (IntKind.bits IntKind.u64) (IntKind.wrap IntKind.u64 (0:Int)))):
                        Int)*
                    (2:Int)^min (Int.toNat (8:Int)) (IntKind.bits IntKind.u64))) |||
              BitVec.ofInt (IntKind.bits IntKind.u64) (IntKind.wrap IntKind.u64 (0:Int)))):
        Int)))
  (aL (1:Nat) b e)) (aL (1:Nat) b e)),KO], []⟩)))))))):=by kernel_rfl
theorem MG (b:Bs) (a e:Int) (z0:Int) (Q:TV→VT→Prop):au Tryz.prog ae (aC [(gU,kB .i64 1),(iu,kC),(jd,xZ [bT z0]),(ko,xY)]) aT 300 aK 0 kp [.ptr 0 0] (dv (aE b a e)) Q=
 (((@Eq (Bool) true true)∧
 IsB (b))∧
 (((@Eq (Bool) true true)∧
 IsB (aA (↑(1:Nat):Int) b e))∧
 (bif av BinOp.neq (k6 (aB (↑(1:Nat):Int) b e) (0:Int))
 then Q gw ⟨[(.cells [ax,(aI (aA (↑(1:Nat):Int) b e)),(ak (bt (↑(1:Nat):Int) b e a)),(ak (aB (↑(1:Nat):Int) b e))]),gv], []⟩
 else (bif decide (aL (1:Nat) b e>(32:Int))
 then Q gw ⟨[(.cells [ax,(aI (aA (↑(1:Nat):Int) b e)),(ak (bt (↑(1:Nat):Int) b e a)),(ak (aB (↑(1:Nat):Int) b e))]),gv], []⟩
 else ((((@Eq (Bool) true true)∧
 IsB (aA (↑(1:Nat):Int) b e))∧
 (@Eq (Bs) (bR (IntKind.wrap IntKind.i64 (Int.tdiv (IntKind.wrap IntKind.i64 (IntKind.wrap IntKind.i64 (aL (1:Nat) b e+(8:Int))-(1:Int))) (8:Int))) (aA (↑(1:Nat):Int) b e) (aB (↑(1:Nat):Int) b e)) [(dK z0)]))∧
 (((@Eq (Bool) true true)∧
 IsB (aA (IntKind.wrap IntKind.i64 (Int.tdiv (IntKind.wrap IntKind.i64 (IntKind.wrap IntKind.i64 (aL (1:Nat) b e+(8:Int))-(1:Int))) (8:Int))) (aA (↑(1:Nat):Int) b e) (aB (↑(1:Nat):Int) b e)))∧
 (bif av BinOp.neq (k6 (aB (IntKind.wrap IntKind.i64 (Int.tdiv (IntKind.wrap IntKind.i64 (IntKind.wrap IntKind.i64 (aL (1:Nat) b e+(8:Int))-(1:Int))) (8:Int))) (aA (↑(1:Nat):Int) b e) (aB (↑(1:Nat):Int) b e)) (0:Int))
 then Q gw ⟨[(.cells [ax,(jD b e),(jC b e a),(jE b e)]),gv,(KN z0)], []⟩
 else (kD (aL (1:Nat) b e)∧
 Q (vv (hJ
  (IntKind.wrap IntKind.u32
    (IntKind.wrap IntKind.u64
      (↑(BitVec.toNat
            (BitVec.ofInt (IntKind.bits IntKind.u64)
                (IntKind.wrap IntKind.u64
                  (IntKind.wrap IntKind.u64
                      (↑(BitVec.toNat
                            (BitVec.ofInt (IntKind.bits IntKind.u64)
                                (IntKind.wrap IntKind.u64
                                  (IntKind.wrap IntKind.u64
                                      (↑(BitVec.toNat
                                            (BitVec.ofInt (IntKind.bits IntKind.u64)
                                                (IntKind.wrap IntKind.u64
                                                  (IntKind.wrap IntKind.u64 (↑(BitVec.toNat (BitVec.ofInt (IntKind.bits IntKind.u64) (IntKind.wrap IntKind.u64 ((0:Int)*(2:Int)^min (Int.toNat (8:Int)) (IntKind.bits IntKind.u64))) ||| BitVec.ofInt (IntKind.bits IntKind.u64) (IntKind.wrap IntKind.u64 z0))):Int)*(2:Int)^min (Int.toNat (8:Int)) (IntKind.bits IntKind.u64))) |||
                                              BitVec.ofInt (IntKind.bits IntKind.u64) (IntKind.wrap IntKind.u64 (0:Int)))):
                                        Int)*
                                    (2:Int)^min (Int.toNat (8:Int)) (IntKind.bits IntKind.u64))) |||
                              BitVec.ofInt (IntKind.bits IntKind.u64) (IntKind.wrap IntKind.u64 (0:Int)))):
                        Int)*
                    (2:Int)^min (Int.toNat (8:Int)) (IntKind.bits IntKind.u64))) |||
              BitVec.ofInt (IntKind.bits IntKind.u64) (IntKind.wrap IntKind.u64 (0:Int)))):
        Int)))
  (aL (1:Nat) b e)) (aL (1:Nat) b e)) ⟨[(.cells [ax,(jD b e),(jC b e a),(jE b e)]),(mi (hJ
  (IntKind.wrap IntKind.u32
    (IntKind.wrap IntKind.u64
      (↑(BitVec.toNat
            (BitVec.ofInt (IntKind.bits IntKind.u64)
                (IntKind.wrap IntKind.u64
                  (IntKind.wrap IntKind.u64
                      (↑(BitVec.toNat
                            (BitVec.ofInt (IntKind.bits IntKind.u64)
                                (IntKind.wrap IntKind.u64
                                  (IntKind.wrap IntKind.u64
                                      (↑(BitVec.toNat
                                            (BitVec.ofInt (IntKind.bits IntKind.u64)
                                                (IntKind.wrap IntKind.u64
                                                  (IntKind.wrap IntKind.u64 (↑(BitVec.toNat (BitVec.ofInt (IntKind.bits IntKind.u64) (IntKind.wrap IntKind.u64 ((0:Int)*(2:Int)^min (Int.toNat (8:Int)) (IntKind.bits IntKind.u64))) ||| BitVec.ofInt (IntKind.bits IntKind.u64) (IntKind.wrap IntKind.u64 z0))):Int)*(2:Int)^min (Int.toNat (8:Int)) (IntKind.bits IntKind.u64))) |||
                                              BitVec.ofInt (IntKind.bits IntKind.u64) (IntKind.wrap IntKind.u64 (0:Int)))):
                                        Int)*
                                    (2:Int)^min (Int.toNat (8:Int)) (IntKind.bits IntKind.u64))) |||
                              BitVec.ofInt (IntKind.bits IntKind.u64) (IntKind.wrap IntKind.u64 (0:Int)))):
                        Int)*
                    (2:Int)^min (Int.toNat (8:Int)) (IntKind.bits IntKind.u64))) |||
              BitVec.ofInt (IntKind.bits IntKind.u64) (IntKind.wrap IntKind.u64 (0:Int)))):
        Int)))
  (aL (1:Nat) b e)) (aL (1:Nat) b e)),(KN z0)], []⟩)))))))):=by kernel_rfl
theorem MH (b:Bs) (a e:Int) (z0 z1:Int) (Q:TV→VT→Prop):au Tryz.prog ae (aC [(gU,kB .i64 1),(iu,kC),(jd,xZ [bT z0,bT z1]),(ko,xY)]) aT 300 aK 0 kp [.ptr 0 0] (dv (aE b a e)) Q=
 (((@Eq (Bool) true true)∧
 IsB (b))∧
 (((@Eq (Bool) true true)∧
 IsB (aA (↑(1:Nat):Int) b e))∧
 (bif av BinOp.neq (k6 (aB (↑(1:Nat):Int) b e) (0:Int))
 then Q gw ⟨[(.cells [ax,(aI (aA (↑(1:Nat):Int) b e)),(ak (bt (↑(1:Nat):Int) b e a)),(ak (aB (↑(1:Nat):Int) b e))]),gv], []⟩
 else (bif decide (aL (1:Nat) b e>(32:Int))
 then Q gw ⟨[(.cells [ax,(aI (aA (↑(1:Nat):Int) b e)),(ak (bt (↑(1:Nat):Int) b e a)),(ak (aB (↑(1:Nat):Int) b e))]),gv], []⟩
 else ((((@Eq (Bool) true true)∧
 IsB (aA (↑(1:Nat):Int) b e))∧
 (@Eq (Bs) (bR (IntKind.wrap IntKind.i64 (Int.tdiv (IntKind.wrap IntKind.i64 (IntKind.wrap IntKind.i64 (aL (1:Nat) b e+(8:Int))-(1:Int))) (8:Int))) (aA (↑(1:Nat):Int) b e) (aB (↑(1:Nat):Int) b e)) [(dK z0),(dK z1)]))∧
 (((@Eq (Bool) true true)∧
 IsB (aA (IntKind.wrap IntKind.i64 (Int.tdiv (IntKind.wrap IntKind.i64 (IntKind.wrap IntKind.i64 (aL (1:Nat) b e+(8:Int))-(1:Int))) (8:Int))) (aA (↑(1:Nat):Int) b e) (aB (↑(1:Nat):Int) b e)))∧
 (bif av BinOp.neq (k6 (aB (IntKind.wrap IntKind.i64 (Int.tdiv (IntKind.wrap IntKind.i64 (IntKind.wrap IntKind.i64 (aL (1:Nat) b e+(8:Int))-(1:Int))) (8:Int))) (aA (↑(1:Nat):Int) b e) (aB (↑(1:Nat):Int) b e)) (0:Int))
 then Q gw ⟨[(.cells [ax,(jD b e),(jC b e a),(jE b e)]),gv,(.cells [(bH z0),(bH z1),fP,fP])], []⟩
 else (kD (aL (1:Nat) b e)∧
 Q (vv (hJ
  (IntKind.wrap IntKind.u32
    (IntKind.wrap IntKind.u64
      (↑(BitVec.toNat
            (BitVec.ofInt (IntKind.bits IntKind.u64)
                (IntKind.wrap IntKind.u64
                  (IntKind.wrap IntKind.u64
                      (↑(BitVec.toNat
                            (BitVec.ofInt (IntKind.bits IntKind.u64)
                                (IntKind.wrap IntKind.u64
                                  (IntKind.wrap IntKind.u64
                                      (↑(BitVec.toNat
                                            (BitVec.ofInt (IntKind.bits IntKind.u64)
                                                (IntKind.wrap IntKind.u64
                                                  (IntKind.wrap IntKind.u64 (↑(BitVec.toNat (BitVec.ofInt (IntKind.bits IntKind.u64) (IntKind.wrap IntKind.u64 ((0:Int)*(2:Int)^min (Int.toNat (8:Int)) (IntKind.bits IntKind.u64))) ||| BitVec.ofInt (IntKind.bits IntKind.u64) (IntKind.wrap IntKind.u64 z0))):Int)*(2:Int)^min (Int.toNat (8:Int)) (IntKind.bits IntKind.u64))) |||
                                              BitVec.ofInt (IntKind.bits IntKind.u64) (IntKind.wrap IntKind.u64 z1))):
                                        Int)*
                                    (2:Int)^min (Int.toNat (8:Int)) (IntKind.bits IntKind.u64))) |||
                              BitVec.ofInt (IntKind.bits IntKind.u64) (IntKind.wrap IntKind.u64 (0:Int)))):
                        Int)*
                    (2:Int)^min (Int.toNat (8:Int)) (IntKind.bits IntKind.u64))) |||
              BitVec.ofInt (IntKind.bits IntKind.u64) (IntKind.wrap IntKind.u64 (0:Int)))):
        Int)))
  (aL (1:Nat) b e)) (aL (1:Nat) b e)) ⟨[(.cells [ax,(jD b e),(jC b e a),(jE b e)]),(mi (hJ
  (IntKind.wrap IntKind.u32
    (IntKind.wrap IntKind.u64
      (↑(BitVec.toNat
            (BitVec.ofInt (IntKind.bits IntKind.u64)
                (IntKind.wrap IntKind.u64
                  (IntKind.wrap IntKind.u64
                      (↑(BitVec.toNat
                            (BitVec.ofInt (IntKind.bits IntKind.u64)
                                (IntKind.wrap IntKind.u64
                                  (IntKind.wrap IntKind.u64
                                      (↑(BitVec.toNat
                                            (BitVec.ofInt (IntKind.bits IntKind.u64)
                                                (IntKind.wrap IntKind.u64
                                                  (IntKind.wrap IntKind.u64 (↑(BitVec.toNat (BitVec.ofInt (IntKind.bits IntKind.u64) (IntKind.wrap IntKind.u64 ((0:Int)*(2:Int)^min (Int.toNat (8:Int)) (IntKind.bits IntKind.u64))) ||| BitVec.ofInt (IntKind.bits IntKind.u64) (IntKind.wrap IntKind.u64 z0))):Int)*(2:Int)^min (Int.toNat (8:Int)) (IntKind.bits IntKind.u64))) |||
                                              BitVec.ofInt (IntKind.bits IntKind.u64) (IntKind.wrap IntKind.u64 z1))):
                                        Int)*
                                    (2:Int)^min (Int.toNat (8:Int)) (IntKind.bits IntKind.u64))) |||
                              BitVec.ofInt (IntKind.bits IntKind.u64) (IntKind.wrap IntKind.u64 (0:Int)))):
                        Int)*
                    (2:Int)^min (Int.toNat (8:Int)) (IntKind.bits IntKind.u64))) |||
              BitVec.ofInt (IntKind.bits IntKind.u64) (IntKind.wrap IntKind.u64 (0:Int)))):
        Int)))
  (aL (1:Nat) b e)) (aL (1:Nat) b e)),(.cells [(bH z0),(bH z1),fP,fP])], []⟩)))))))):=by kernel_rfl
theorem MI (b:Bs) (a e:Int) (z0 z1 z2:Int) (Q:TV→VT→Prop):au Tryz.prog ae (aC [(gU,kB .i64 1),(iu,kC),(jd,xZ [bT z0,bT z1,bT z2]),(ko,xY)]) aT 300 aK 0 kp [.ptr 0 0] (dv (aE b a e)) Q=
 (((@Eq (Bool) true true)∧
 IsB (b))∧
 (((@Eq (Bool) true true)∧
 IsB (aA (↑(1:Nat):Int) b e))∧
 (bif av BinOp.neq (k6 (aB (↑(1:Nat):Int) b e) (0:Int))
 then Q gw ⟨[(.cells [ax,(aI (aA (↑(1:Nat):Int) b e)),(ak (bt (↑(1:Nat):Int) b e a)),(ak (aB (↑(1:Nat):Int) b e))]),gv], []⟩
 else (bif decide (aL (1:Nat) b e>(32:Int))
 then Q gw ⟨[(.cells [ax,(aI (aA (↑(1:Nat):Int) b e)),(ak (bt (↑(1:Nat):Int) b e a)),(ak (aB (↑(1:Nat):Int) b e))]),gv], []⟩
 else ((((@Eq (Bool) true true)∧
 IsB (aA (↑(1:Nat):Int) b e))∧
 (@Eq (Bs) (bR (IntKind.wrap IntKind.i64 (Int.tdiv (IntKind.wrap IntKind.i64 (IntKind.wrap IntKind.i64 (aL (1:Nat) b e+(8:Int))-(1:Int))) (8:Int))) (aA (↑(1:Nat):Int) b e) (aB (↑(1:Nat):Int) b e)) [(dK z0),(dK z1),(dK z2)]))∧
 (((@Eq (Bool) true true)∧
 IsB (aA (IntKind.wrap IntKind.i64 (Int.tdiv (IntKind.wrap IntKind.i64 (IntKind.wrap IntKind.i64 (aL (1:Nat) b e+(8:Int))-(1:Int))) (8:Int))) (aA (↑(1:Nat):Int) b e) (aB (↑(1:Nat):Int) b e)))∧
 (bif av BinOp.neq (k6 (aB (IntKind.wrap IntKind.i64 (Int.tdiv (IntKind.wrap IntKind.i64 (IntKind.wrap IntKind.i64 (aL (1:Nat) b e+(8:Int))-(1:Int))) (8:Int))) (aA (↑(1:Nat):Int) b e) (aB (↑(1:Nat):Int) b e)) (0:Int))
 then Q gw ⟨[(.cells [ax,(jD b e),(jC b e a),(jE b e)]),gv,(.cells [(bH z0),(bH z1),(bH z2),fP])], []⟩
 else (kD (aL (1:Nat) b e)∧
 Q (vv (hJ
  (IntKind.wrap IntKind.u32
    (IntKind.wrap IntKind.u64
      (↑(BitVec.toNat
            (BitVec.ofInt (IntKind.bits IntKind.u64)
                (IntKind.wrap IntKind.u64
                  (IntKind.wrap IntKind.u64
                      (↑(BitVec.toNat
                            (BitVec.ofInt (IntKind.bits IntKind.u64)
                                (IntKind.wrap IntKind.u64
                                  (IntKind.wrap IntKind.u64
                                      (↑(BitVec.toNat
                                            (BitVec.ofInt (IntKind.bits IntKind.u64)
                                                (IntKind.wrap IntKind.u64
                                                  (IntKind.wrap IntKind.u64 (↑(BitVec.toNat (BitVec.ofInt (IntKind.bits IntKind.u64) (IntKind.wrap IntKind.u64 ((0:Int)*(2:Int)^min (Int.toNat (8:Int)) (IntKind.bits IntKind.u64))) ||| BitVec.ofInt (IntKind.bits IntKind.u64) (IntKind.wrap IntKind.u64 z0))):Int)*(2:Int)^min (Int.toNat (8:Int)) (IntKind.bits IntKind.u64))) |||
                                              BitVec.ofInt (IntKind.bits IntKind.u64) (IntKind.wrap IntKind.u64 z1))):
                                        Int)*
                                    (2:Int)^min (Int.toNat (8:Int)) (IntKind.bits IntKind.u64))) |||
                              BitVec.ofInt (IntKind.bits IntKind.u64) (IntKind.wrap IntKind.u64 z2))):
                        Int)*
                    (2:Int)^min (Int.toNat (8:Int)) (IntKind.bits IntKind.u64))) |||
              BitVec.ofInt (IntKind.bits IntKind.u64) (IntKind.wrap IntKind.u64 (0:Int)))):
        Int)))
  (aL (1:Nat) b e)) (aL (1:Nat) b e)) ⟨[(.cells [ax,(jD b e),(jC b e a),(jE b e)]),(mi (hJ
  (IntKind.wrap IntKind.u32
    (IntKind.wrap IntKind.u64
      (↑(BitVec.toNat
            (BitVec.ofInt (IntKind.bits IntKind.u64)
                (IntKind.wrap IntKind.u64
                  (IntKind.wrap IntKind.u64
                      (↑(BitVec.toNat
                            (BitVec.ofInt (IntKind.bits IntKind.u64)
                                (IntKind.wrap IntKind.u64
                                  (IntKind.wrap IntKind.u64
                                      (↑(BitVec.toNat
                                            (BitVec.ofInt (IntKind.bits IntKind.u64)
                                                (IntKind.wrap IntKind.u64
                                                  (IntKind.wrap IntKind.u64 (↑(BitVec.toNat (BitVec.ofInt (IntKind.bits IntKind.u64) (IntKind.wrap IntKind.u64 ((0:Int)*(2:Int)^min (Int.toNat (8:Int)) (IntKind.bits IntKind.u64))) ||| BitVec.ofInt (IntKind.bits IntKind.u64) (IntKind.wrap IntKind.u64 z0))):Int)*(2:Int)^min (Int.toNat (8:Int)) (IntKind.bits IntKind.u64))) |||
                                              BitVec.ofInt (IntKind.bits IntKind.u64) (IntKind.wrap IntKind.u64 z1))):
                                        Int)*
                                    (2:Int)^min (Int.toNat (8:Int)) (IntKind.bits IntKind.u64))) |||
                              BitVec.ofInt (IntKind.bits IntKind.u64) (IntKind.wrap IntKind.u64 z2))):
                        Int)*
                    (2:Int)^min (Int.toNat (8:Int)) (IntKind.bits IntKind.u64))) |||
              BitVec.ofInt (IntKind.bits IntKind.u64) (IntKind.wrap IntKind.u64 (0:Int)))):
        Int)))
  (aL (1:Nat) b e)) (aL (1:Nat) b e)),(.cells [(bH z0),(bH z1),(bH z2),fP])], []⟩)))))))):=by kernel_rfl
theorem MJ (b:Bs) (a e:Int) (z0 z1 z2 z3:Int) (Q:TV→VT→Prop):au Tryz.prog ae (aC [(gU,kB .i64 1),(iu,kC),(jd,xZ [bT z0,bT z1,bT z2,bT z3]),(ko,xY)]) aT 300 aK 0 kp [.ptr 0 0] (dv (aE b a e)) Q=
 (((@Eq (Bool) true true)∧
 IsB (b))∧
 (((@Eq (Bool) true true)∧
 IsB (aA (↑(1:Nat):Int) b e))∧
 (bif av BinOp.neq (k6 (aB (↑(1:Nat):Int) b e) (0:Int))
 then Q gw ⟨[(.cells [ax,(aI (aA (↑(1:Nat):Int) b e)),(ak (bt (↑(1:Nat):Int) b e a)),(ak (aB (↑(1:Nat):Int) b e))]),gv], []⟩
 else (bif decide (aL (1:Nat) b e>(32:Int))
 then Q gw ⟨[(.cells [ax,(aI (aA (↑(1:Nat):Int) b e)),(ak (bt (↑(1:Nat):Int) b e a)),(ak (aB (↑(1:Nat):Int) b e))]),gv], []⟩
 else ((((@Eq (Bool) true true)∧
 IsB (aA (↑(1:Nat):Int) b e))∧
 (@Eq (Bs) (bR (IntKind.wrap IntKind.i64 (Int.tdiv (IntKind.wrap IntKind.i64 (IntKind.wrap IntKind.i64 (aL (1:Nat) b e+(8:Int))-(1:Int))) (8:Int))) (aA (↑(1:Nat):Int) b e) (aB (↑(1:Nat):Int) b e)) [(dK z0),(dK z1),(dK z2),(dK z3)]))∧
 (((@Eq (Bool) true true)∧
 IsB (aA (IntKind.wrap IntKind.i64 (Int.tdiv (IntKind.wrap IntKind.i64 (IntKind.wrap IntKind.i64 (aL (1:Nat) b e+(8:Int))-(1:Int))) (8:Int))) (aA (↑(1:Nat):Int) b e) (aB (↑(1:Nat):Int) b e)))∧
 (bif av BinOp.neq (k6 (aB (IntKind.wrap IntKind.i64 (Int.tdiv (IntKind.wrap IntKind.i64 (IntKind.wrap IntKind.i64 (aL (1:Nat) b e+(8:Int))-(1:Int))) (8:Int))) (aA (↑(1:Nat):Int) b e) (aB (↑(1:Nat):Int) b e)) (0:Int))
 then Q gw ⟨[(.cells [ax,(jD b e),(jC b e a),(jE b e)]),gv,(.cells [(bH z0),(bH z1),(bH z2),(bH z3)])], []⟩
 else (kD (aL (1:Nat) b e)∧
 Q (vv (hJ
  (IntKind.wrap IntKind.u32
    (IntKind.wrap IntKind.u64
      (↑(BitVec.toNat
            (BitVec.ofInt (IntKind.bits IntKind.u64)
                (IntKind.wrap IntKind.u64
                  (IntKind.wrap IntKind.u64
                      (↑(BitVec.toNat
                            (BitVec.ofInt (IntKind.bits IntKind.u64)
                                (IntKind.wrap IntKind.u64
                                  (IntKind.wrap IntKind.u64
                                      (↑(BitVec.toNat
                                            (BitVec.ofInt (IntKind.bits IntKind.u64)
                                                (IntKind.wrap IntKind.u64
                                                  (IntKind.wrap IntKind.u64 (↑(BitVec.toNat (BitVec.ofInt (IntKind.bits IntKind.u64) (IntKind.wrap IntKind.u64 ((0:Int)*(2:Int)^min (Int.toNat (8:Int)) (IntKind.bits IntKind.u64))) ||| BitVec.ofInt (IntKind.bits IntKind.u64) (IntKind.wrap IntKind.u64 z0))):Int)*(2:Int)^min (Int.toNat (8:Int)) (IntKind.bits IntKind.u64))) |||
                                              BitVec.ofInt (IntKind.bits IntKind.u64) (IntKind.wrap IntKind.u64 z1))):
                                        Int)*
                                    (2:Int)^min (Int.toNat (8:Int)) (IntKind.bits IntKind.u64))) |||
                              BitVec.ofInt (IntKind.bits IntKind.u64) (IntKind.wrap IntKind.u64 z2))):
                        Int)*
                    (2:Int)^min (Int.toNat (8:Int)) (IntKind.bits IntKind.u64))) |||
              BitVec.ofInt (IntKind.bits IntKind.u64) (IntKind.wrap IntKind.u64 z3))):
        Int)))
  (aL (1:Nat) b e)) (aL (1:Nat) b e)) ⟨[(.cells [ax,(jD b e),(jC b e a),(jE b e)]),(mi (hJ
  (IntKind.wrap IntKind.u32
    (IntKind.wrap IntKind.u64
      (↑(BitVec.toNat
            (BitVec.ofInt (IntKind.bits IntKind.u64)
                (IntKind.wrap IntKind.u64
                  (IntKind.wrap IntKind.u64
                      (↑(BitVec.toNat
                            (BitVec.ofInt (IntKind.bits IntKind.u64)
                                (IntKind.wrap IntKind.u64
                                  (IntKind.wrap IntKind.u64
                                      (↑(BitVec.toNat
                                            (BitVec.ofInt (IntKind.bits IntKind.u64)
                                                (IntKind.wrap IntKind.u64
                                                  (IntKind.wrap IntKind.u64 (↑(BitVec.toNat (BitVec.ofInt (IntKind.bits IntKind.u64) (IntKind.wrap IntKind.u64 ((0:Int)*(2:Int)^min (Int.toNat (8:Int)) (IntKind.bits IntKind.u64))) ||| BitVec.ofInt (IntKind.bits IntKind.u64) (IntKind.wrap IntKind.u64 z0))):Int)*(2:Int)^min (Int.toNat (8:Int)) (IntKind.bits IntKind.u64))) |||
                                              BitVec.ofInt (IntKind.bits IntKind.u64) (IntKind.wrap IntKind.u64 z1))):
                                        Int)*
                                    (2:Int)^min (Int.toNat (8:Int)) (IntKind.bits IntKind.u64))) |||
                              BitVec.ofInt (IntKind.bits IntKind.u64) (IntKind.wrap IntKind.u64 z2))):
                        Int)*
                    (2:Int)^min (Int.toNat (8:Int)) (IntKind.bits IntKind.u64))) |||
              BitVec.ofInt (IntKind.bits IntKind.u64) (IntKind.wrap IntKind.u64 z3))):
        Int)))
  (aL (1:Nat) b e)) (aL (1:Nat) b e)),(.cells [(bH z0),(bH z1),(bH z2),(bH z3)])], []⟩)))))))):=by kernel_rfl
end
section
open Go.RowKit

theorem Gm {n:Int} (h:kD n):n=0∨n=1∨n=2∨n=3∨n=4∨n=5∨n=6∨n=7∨n=8∨n=9∨n=10∨n=11∨n=12∨n=13∨n=14∨n=15∨n=16∨n=17∨n=18∨n=19∨n=20∨n=21∨n=22∨n=23∨n=24∨n=25∨n=26∨n=27∨n=28∨n=29∨n=30∨n=31∨n=32:=by
 obtain ⟨h0,h1⟩:=h;omega
theorem MK {n:Int} (h:kD n):VCx Tryz.prog ae 0 cD [.val (.int .i64 n)] ⟨[], []⟩ fun x T' =>x= .val (.int .u32 (CM n))∧T' =⟨[], []⟩:=by
 rcases Gm h with rfl | rfl | rfl | rfl | rfl | rfl | rfl | rfl | rfl | rfl | rfl | rfl | rfl | rfl | rfl | rfl | rfl | rfl | rfl | rfl | rfl | rfl | rfl | rfl | rfl | rfl | rfl | rfl | rfl | rfl | rfl | rfl | rfl
 ·exact ai ac aa an ah (Mv _) ⟨rfl,rfl⟩
 ·exact ai ac aa an ah (Mw _) ⟨rfl,rfl⟩
 ·exact ai ac aa an ah (Mx _) ⟨rfl,rfl⟩
 ·exact ai ac aa an ah (My _) ⟨rfl,rfl⟩
 ·exact ai ac aa an ah (Mz _) ⟨rfl,rfl⟩
 ·exact ai ac aa an ah (MA _) ⟨rfl,rfl⟩
 ·exact ai ac aa an ah (MB _) ⟨rfl,rfl⟩
 ·exact ai ac aa an ah (MC _) ⟨rfl,rfl⟩
 ·exact ai ac aa an ah (MD _) ⟨rfl,rfl⟩
 ·exact ai ac aa an ah (ME _) ⟨rfl,rfl⟩
 ·exact ai ac aa an ah (Jl _) ⟨rfl,rfl⟩
 ·exact ai ac aa an ah (Jm _) ⟨rfl,rfl⟩
 ·exact ai ac aa an ah (Jn _) ⟨rfl,rfl⟩
 ·exact ai ac aa an ah (Jo _) ⟨rfl,rfl⟩
 ·exact ai ac aa an ah (Jp _) ⟨rfl,rfl⟩
 ·exact ai ac aa an ah (Jq _) ⟨rfl,rfl⟩
 ·exact ai ac aa an ah (Jr _) ⟨rfl,rfl⟩
 ·exact ai ac aa an ah (Js _) ⟨rfl,rfl⟩
 ·exact ai ac aa an ah (Jt _) ⟨rfl,rfl⟩
 ·exact ai ac aa an ah (Ju _) ⟨rfl,rfl⟩
 ·exact ai ac aa an ah (Jv _) ⟨rfl,rfl⟩
 ·exact ai ac aa an ah (Jw _) ⟨rfl,rfl⟩
 ·exact ai ac aa an ah (Jx _) ⟨rfl,rfl⟩
 ·exact ai ac aa an ah (Jy _) ⟨rfl,rfl⟩
 ·exact ai ac aa an ah (Jz _) ⟨rfl,rfl⟩
 ·exact ai ac aa an ah (JA _) ⟨rfl,rfl⟩
 ·exact ai ac aa an ah (JB _) ⟨rfl,rfl⟩
 ·exact ai ac aa an ah (JC _) ⟨rfl,rfl⟩
 ·exact ai ac aa an ah (JD _) ⟨rfl,rfl⟩
 ·exact ai ac aa an ah (JE _) ⟨rfl,rfl⟩
 ·exact ai ac aa an ah (JF _) ⟨rfl,rfl⟩
 ·exact ai ac aa an ah (JG _) ⟨rfl,rfl⟩
 ·exact ai ac aa an ah (JH _) ⟨rfl,rfl⟩
theorem CN:∀ro ys T K,Ph ro ys T K→VCx Tryz.prog ae ro cD ys T K:=by
 intro ro ys T K hw
 unfold Ph at hw
 split at hw
 ·exact VCx.liftPure aq (MK hw.1) rfl (fun _ _=>rfl) hw.2
 ·exact hw.elim
theorem CO (a:Int) {n:Int} (h:kD n):VCx Tryz.prog ae 0 ko [.agg [.val (.int .u32 a), .val (.int .i64 n)]] ⟨[], []⟩ fun x T' =>x= .agg [.val (.int .u32 (hJ a n)), .val (.int .i64 n)]∧T' =⟨[], []⟩:=by
 refine VCx.keepQ 0 0 (Nat.le_refl _) (Nat.le_refl _) (ai ac aa (aJ fun p hp=>by obtain rfl:=List.mem_singleton.1 hp;exact CN) ah (Gl a n _) ?_)
 have e:(if (32:Int)<if (0:Int)>n then (0:Int) else n then (32:Int) else if (0:Int)>n then (0:Int) else n)=n:=by
  obtain ⟨h0,h1⟩:=h
  rw [if_neg (show ¬(0:Int)>n by omega),if_neg (by omega)]
 rw [e]
 exact ⟨h,rfl,rfl⟩
theorem ML:∀ro ys T K,xY ro ys T K→VCx Tryz.prog ae ro ko ys T K:=by
 intro ro ys T K hw
 unfold xY at hw
 split at hw
 ·exact VCx.liftPure aq (CO _ hw.1) rfl (fun _ _=>rfl) hw.2
 ·exact hw.elim
theorem Pi (l:Bs):∀ro ys T K,xZ l ro ys T K→VCx Tryz.prog ae ro jd ys T K:=by
 intro ro ys T K hw
 unfold xZ at hw
 split at hw
 ·split at hw
  ·rename_i ho
   obtain ⟨⟨h1,h2⟩,hk⟩:=hw
   subst h2
   refine rq _ _ _ _ ?_
   unfold Au
   simp only [ho]
   exact ⟨h1,hk⟩
  ·exact hw.elim
 ·exact hw.elim
def fK (n:Int):Int:=Int.tdiv (n+7) 8
def vy (l:Bs):Int:=eo (l++List.replicate (4-l.length) (bT 0))
def cO (b:Bs) (e:Int):Bool:=decide (aB 1 b e=0)&&decide (aL 1 b e≤32)
def nf (b:Bs) (e:Int):Bs:=bR (fK (aL 1 b e)) (aA 1 b e) (aB 1 b e)
def o6 (b:Bs) (e:Int):Int:=aB (fK (aL 1 b e)) (aA 1 b e) (aB 1 b e)
def bE (b:Bs) (e:Int):Bool:=cO b e&&decide (o6 b e=0)
def dq (b:Bs) (e:Int):Bs:=bif cO b e then aA (fK (aL 1 b e)) (aA 1 b e) (aB 1 b e) else aA 1 b e
def hU (b:Bs) (e:Int):Int:=bif cO b e then o6 b e else aB 1 b e
def f9 (b:Bs) (e a:Int):Int:=bif cO b e then bt (fK (aL 1 b e)) (aA 1 b e) (aB 1 b e) (bt 1 b e a) else bt 1 b e a
def cB (b:Bs) (e:Int):Int:=bif bE b e then hJ (vy (nf b e)) (aL 1 b e) else 0
def cC (b:Bs) (e:Int):Int:=bif bE b e then aL 1 b e else 0
def fL (b:Bs) (e:Int):TV:= .tup [.agg [.val (.int .u32 (cB b e)), .val (.int .i64 (cC b e))], .val (.bool (bE b e))]
theorem fQ {b:Bs} (hb:IsB b) (a e:Int) (l:List VO) (t:List (Nat × Nat × Bool)):VT.keep ⟨aE b a e::l,t⟩ 1 0=⟨[aE b a e], []⟩:=by
 simp only [VT.keep,List.take_succ_cons,List.take_zero,List.map_cons,List.map_nil,bC hb]
theorem AH {b:Bs} {e:Int} (h:IsB b):IsB (dq b e):=by
 unfold dq;cases cO b e
 ·exact aF h
 ·exact aF (aF h)
theorem AI {b:Bs} (h:IsB b) (e:Int):0≤aL 1 b e∧aL 1 b e<256:=by
 rw [Ar];exact As (n:=1) h e
theorem Gn {n:Int} (h0:0≤n) (h1:n<256):IntKind.wrap .i64 (Int.tdiv (IntKind.wrap .i64 (IntKind.wrap .i64 (n+(8:Int))-(1:Int))) (8:Int))=fK n:=by
 unfold fK
 rw [bP (z:=n+8) (by omega) (by omega),bP (z:=n+8-1) (by omega) (by omega),show n+8-1=n+7 by omega]
 have:=Int.tdiv_eq_ediv_of_nonneg (a:=n+7) (b:=8) (by omega)
 exact bP (by omega) (by omega)
theorem rx (z0 z1 z2 z3:Int):vy [bT z0,bT z1,bT z2,bT z3]=((z0*256+z1)*256+z2)*256+z3∧vy [bT z0,bT z1,bT z2]=((z0*256+z1)*256+z2)*256∧vy [bT z0,bT z1]=((z0*256+z1)*256)*256∧vy [bT z0]=(z0*256*256)*256∧vy []=0:=by
 refine ⟨?_, ?_, ?_, ?_, ?_⟩<;>simp [vy,eo,eJ,bT,List.replicate]
theorem AJ (l:Bs):aZ Tryz.prog ae (aC [(gU,kB .i64 1),(iu,kC),(jd,xZ l),(ko,xY)]):=aJ fun p hp=>by
 rcases List.mem_cons.1 hp with rfl | hp;exact oZ
 rcases List.mem_cons.1 hp with rfl | hp;exact o5
 rcases List.mem_cons.1 hp with rfl | hp;exact Pi l
 obtain rfl:=List.mem_singleton.1 hp;exact ML
def gk (b:Bs) (a e:Int):VT:=⟨[aE (dq b e) (f9 b e a) (hU b e)], []⟩
theorem Pj {b:Bs} (hb:IsB b) (a e:Int) (hl:cO b e=true→nf b e= []):VCx Tryz.prog ae 0 kp [.ptr 0 0] ⟨[aE b a e], []⟩ fun x T' =>x=fL b e∧T' =gk b a e:=by
  obtain ⟨hn0,hn1⟩:=AI hb e
  refine VCx.keepQ 1 0 (Nat.le_refl _) (Nat.le_refl _) (ai ac aa (AJ []) ah (MF b a e _) ?_)
  refine ⟨⟨rfl,hb⟩,⟨rfl,aF hb⟩, ?_⟩
  by_cases h1:aB 1 b e=0
  · refine aM (by rw [dy];exact congrArg Bool.not (decide_eq_true h1)) ?_
    by_cases h2:aL 1 b e≤32
    · have hG:cO b e=true:=by unfold cO;rw [decide_eq_true h1,decide_eq_true h2];rfl
      have hL:=hl hG
      refine aM (decide_eq_false (by omega)) ?_
      try delta jC jD jE
      rw [Gn hn0 hn1]
      refine ⟨⟨⟨rfl,aF hb⟩,hL⟩,⟨rfl,aF (aF hb)⟩, ?_⟩
      have eT:∀l:List VO,VT.keep ⟨aE (aA (fK (aL 1 b e)) (aA 1 b e) (aB 1 b e)) (bt (fK (aL 1 b e)) (aA 1 b e) (aB 1 b e) (bt 1 b e a)) (aB (fK (aL 1 b e)) (aA 1 b e) (aB 1 b e))::l, []⟩ 1 0=gk b a e:=fun l=>by
        rw [fQ (aF (aF hb))];simp only [gk,dq,f9,hU,o6,hG,cond_true]
      by_cases h3:o6 b e=0
      · have hO:bE b e=true:=by unfold bE;rw [hG,decide_eq_true h3];rfl
        refine aM (by rw [dy];exact congrArg Bool.not (decide_eq_true h3)) ⟨⟨hn0,h2⟩, ?_,eT _⟩
        unfold fL cB cC
        rw [hO]
        simp only [cond_true]
        refine congrArg (fun y=>TV.tup [.agg [.val (.int .u32 (hJ y (aL 1 b e))), .val (.int .i64 (aL 1 b e))], .val (.bool true)]) ?_
        rw [hL]
        have ha:=rx 0 0 0 0
        rw [cp (n:=0) (z:=0) (by omega) (by omega) (by omega) (by omega)]
        rw [cp (n:=(0*256+0)) (z:=0) (by omega) (by omega) (by omega) (by omega)]
        rw [cp (n:=((0*256+0)*256+0)) (z:=0) (by omega) (by omega) (by omega) (by omega)]
        rw [cp (n:=(((0*256+0)*256+0)*256+0)) (z:=0) (by omega) (by omega) (by omega) (by omega)]
        have hw64:IntKind.wrap .u64 ((((0*256+0)*256+0)*256+0)*256+0)=((((0*256+0)*256+0)*256+0)*256+0):=by simp only [IntKind.wrap,IntKind.bits,IntKind.signed];simp<;>omega
        have hw32:IntKind.wrap .u32 ((((0*256+0)*256+0)*256+0)*256+0)=((((0*256+0)*256+0)*256+0)*256+0):=by simp only [IntKind.wrap,IntKind.bits,IntKind.signed];simp<;>omega
        rw [ha.2.2.2.2]
        first | rw [hw64,hw32] | rw [hw32] | skip
        omega
      · have hO:bE b e=false:=by unfold bE;rw [hG,decide_eq_false h3];rfl
        refine aQ (by rw [dy];exact congrArg Bool.not (decide_eq_false h3)) ⟨?_,eT _⟩
        unfold fL cB cC
        rw [hO];rfl
    · have hG:cO b e=false:=by unfold cO;rw [decide_eq_false h2,Bool.and_false]
      have hO:bE b e=false:=by unfold bE;rw [hG];rfl
      refine aQ (decide_eq_true (by omega)) ⟨?_, ?_⟩
      · unfold fL cB cC
        rw [hO];rfl
      · refine (fQ (aF hb) _ _ _ _).trans ?_
        simp only [gk,dq,f9,hU,hG,cond_false];rfl
  · have hG:cO b e=false:=by unfold cO;rw [decide_eq_false h1,Bool.false_and]
    have hO:bE b e=false:=by unfold bE;rw [hG];rfl
    refine aQ (by rw [dy];exact congrArg Bool.not (decide_eq_false h1)) ⟨?_, ?_⟩
    · unfold fL cB cC
      rw [hO];rfl
    · refine (fQ (aF hb) _ _ _ _).trans ?_
      simp only [gk,dq,f9,hU,hG,cond_false];rfl
theorem UB {b:Bs} (hb:IsB b) (a e:Int) {z0:Int} (hz0:0≤z0∧z0<256) (hl:cO b e=true→nf b e= [bT z0]):VCx Tryz.prog ae 0 kp [.ptr 0 0] ⟨[aE b a e], []⟩ fun x T' =>x=fL b e∧T' =gk b a e:=by
  obtain ⟨hn0,hn1⟩:=AI hb e
  refine VCx.keepQ 1 0 (Nat.le_refl _) (Nat.le_refl _) (ai ac aa (AJ [bT z0]) ah (MG b a e z0 _) ?_)
  refine ⟨⟨rfl,hb⟩,⟨rfl,aF hb⟩, ?_⟩
  by_cases h1:aB 1 b e=0
  · refine aM (by rw [dy];exact congrArg Bool.not (decide_eq_true h1)) ?_
    by_cases h2:aL 1 b e≤32
    · have hG:cO b e=true:=by unfold cO;rw [decide_eq_true h1,decide_eq_true h2];rfl
      have hL:=hl hG
      refine aM (decide_eq_false (by omega)) ?_
      try delta jC jD jE
      rw [Gn hn0 hn1]
      refine ⟨⟨⟨rfl,aF hb⟩,hL⟩,⟨rfl,aF (aF hb)⟩, ?_⟩
      have eT:∀l:List VO,VT.keep ⟨aE (aA (fK (aL 1 b e)) (aA 1 b e) (aB 1 b e)) (bt (fK (aL 1 b e)) (aA 1 b e) (aB 1 b e) (bt 1 b e a)) (aB (fK (aL 1 b e)) (aA 1 b e) (aB 1 b e))::l, []⟩ 1 0=gk b a e:=fun l=>by
        rw [fQ (aF (aF hb))];simp only [gk,dq,f9,hU,o6,hG,cond_true]
      by_cases h3:o6 b e=0
      · have hO:bE b e=true:=by unfold bE;rw [hG,decide_eq_true h3];rfl
        refine aM (by rw [dy];exact congrArg Bool.not (decide_eq_true h3)) ⟨⟨hn0,h2⟩, ?_,eT _⟩
        unfold fL cB cC
        rw [hO]
        simp only [cond_true]
        refine congrArg (fun y=>TV.tup [.agg [.val (.int .u32 (hJ y (aL 1 b e))), .val (.int .i64 (aL 1 b e))], .val (.bool true)]) ?_
        rw [hL]
        have ha:=rx z0 0 0 0
        rw [cp (n:=0) (z:=z0) (by omega) (by omega) (by omega) (by omega)]
        rw [cp (n:=(0*256+z0)) (z:=0) (by omega) (by omega) (by omega) (by omega)]
        rw [cp (n:=((0*256+z0)*256+0)) (z:=0) (by omega) (by omega) (by omega) (by omega)]
        rw [cp (n:=(((0*256+z0)*256+0)*256+0)) (z:=0) (by omega) (by omega) (by omega) (by omega)]
        have hw64:IntKind.wrap .u64 ((((0*256+z0)*256+0)*256+0)*256+0)=((((0*256+z0)*256+0)*256+0)*256+0):=by simp only [IntKind.wrap,IntKind.bits,IntKind.signed];simp<;>omega
        have hw32:IntKind.wrap .u32 ((((0*256+z0)*256+0)*256+0)*256+0)=((((0*256+z0)*256+0)*256+0)*256+0):=by simp only [IntKind.wrap,IntKind.bits,IntKind.signed];simp<;>omega
        rw [ha.2.2.2.1]
        first | rw [hw64,hw32] | rw [hw32] | skip
        omega
      · have hO:bE b e=false:=by unfold bE;rw [hG,decide_eq_false h3];rfl
        refine aQ (by rw [dy];exact congrArg Bool.not (decide_eq_false h3)) ⟨?_,eT _⟩
        unfold fL cB cC
        rw [hO];rfl
    · have hG:cO b e=false:=by unfold cO;rw [decide_eq_false h2,Bool.and_false]
      have hO:bE b e=false:=by unfold bE;rw [hG];rfl
      refine aQ (decide_eq_true (by omega)) ⟨?_, ?_⟩
      · unfold fL cB cC
        rw [hO];rfl
      · refine (fQ (aF hb) _ _ _ _).trans ?_
        simp only [gk,dq,f9,hU,hG,cond_false];rfl
  · have hG:cO b e=false:=by unfold cO;rw [decide_eq_false h1,Bool.false_and]
    have hO:bE b e=false:=by unfold bE;rw [hG];rfl
    refine aQ (by rw [dy];exact congrArg Bool.not (decide_eq_false h1)) ⟨?_, ?_⟩
    · unfold fL cB cC
      rw [hO];rfl
    · refine (fQ (aF hb) _ _ _ _).trans ?_
      simp only [gk,dq,f9,hU,hG,cond_false];rfl
theorem UC {b:Bs} (hb:IsB b) (a e:Int) {z0 z1:Int} (hz0:0≤z0∧z0<256) (hz1:0≤z1∧z1<256) (hl:cO b e=true→nf b e= [bT z0,bT z1]):VCx Tryz.prog ae 0 kp [.ptr 0 0] ⟨[aE b a e], []⟩ fun x T' =>x=fL b e∧T' =gk b a e:=by
  obtain ⟨hn0,hn1⟩:=AI hb e
  refine VCx.keepQ 1 0 (Nat.le_refl _) (Nat.le_refl _) (ai ac aa (AJ [bT z0,bT z1]) ah (MH b a e z0 z1 _) ?_)
  refine ⟨⟨rfl,hb⟩,⟨rfl,aF hb⟩, ?_⟩
  by_cases h1:aB 1 b e=0
  · refine aM (by rw [dy];exact congrArg Bool.not (decide_eq_true h1)) ?_
    by_cases h2:aL 1 b e≤32
    · have hG:cO b e=true:=by unfold cO;rw [decide_eq_true h1,decide_eq_true h2];rfl
      have hL:=hl hG
      refine aM (decide_eq_false (by omega)) ?_
      try delta jC jD jE
      rw [Gn hn0 hn1]
      refine ⟨⟨⟨rfl,aF hb⟩,hL⟩,⟨rfl,aF (aF hb)⟩, ?_⟩
      have eT:∀l:List VO,VT.keep ⟨aE (aA (fK (aL 1 b e)) (aA 1 b e) (aB 1 b e)) (bt (fK (aL 1 b e)) (aA 1 b e) (aB 1 b e) (bt 1 b e a)) (aB (fK (aL 1 b e)) (aA 1 b e) (aB 1 b e))::l, []⟩ 1 0=gk b a e:=fun l=>by
        rw [fQ (aF (aF hb))];simp only [gk,dq,f9,hU,o6,hG,cond_true]
      by_cases h3:o6 b e=0
      · have hO:bE b e=true:=by unfold bE;rw [hG,decide_eq_true h3];rfl
        refine aM (by rw [dy];exact congrArg Bool.not (decide_eq_true h3)) ⟨⟨hn0,h2⟩, ?_,eT _⟩
        unfold fL cB cC
        rw [hO]
        simp only [cond_true]
        refine congrArg (fun y=>TV.tup [.agg [.val (.int .u32 (hJ y (aL 1 b e))), .val (.int .i64 (aL 1 b e))], .val (.bool true)]) ?_
        rw [hL]
        have ha:=rx z0 z1 0 0
        rw [cp (n:=0) (z:=z0) (by omega) (by omega) (by omega) (by omega)]
        rw [cp (n:=(0*256+z0)) (z:=z1) (by omega) (by omega) (by omega) (by omega)]
        rw [cp (n:=((0*256+z0)*256+z1)) (z:=0) (by omega) (by omega) (by omega) (by omega)]
        rw [cp (n:=(((0*256+z0)*256+z1)*256+0)) (z:=0) (by omega) (by omega) (by omega) (by omega)]
        have hw64:IntKind.wrap .u64 ((((0*256+z0)*256+z1)*256+0)*256+0)=((((0*256+z0)*256+z1)*256+0)*256+0):=by simp only [IntKind.wrap,IntKind.bits,IntKind.signed];simp<;>omega
        have hw32:IntKind.wrap .u32 ((((0*256+z0)*256+z1)*256+0)*256+0)=((((0*256+z0)*256+z1)*256+0)*256+0):=by simp only [IntKind.wrap,IntKind.bits,IntKind.signed];simp<;>omega
        rw [ha.2.2.1]
        first | rw [hw64,hw32] | rw [hw32] | skip
        omega
      · have hO:bE b e=false:=by unfold bE;rw [hG,decide_eq_false h3];rfl
        refine aQ (by rw [dy];exact congrArg Bool.not (decide_eq_false h3)) ⟨?_,eT _⟩
        unfold fL cB cC
        rw [hO];rfl
    · have hG:cO b e=false:=by unfold cO;rw [decide_eq_false h2,Bool.and_false]
      have hO:bE b e=false:=by unfold bE;rw [hG];rfl
      refine aQ (decide_eq_true (by omega)) ⟨?_, ?_⟩
      · unfold fL cB cC
        rw [hO];rfl
      · refine (fQ (aF hb) _ _ _ _).trans ?_
        simp only [gk,dq,f9,hU,hG,cond_false];rfl
  · have hG:cO b e=false:=by unfold cO;rw [decide_eq_false h1,Bool.false_and]
    have hO:bE b e=false:=by unfold bE;rw [hG];rfl
    refine aQ (by rw [dy];exact congrArg Bool.not (decide_eq_false h1)) ⟨?_, ?_⟩
    · unfold fL cB cC
      rw [hO];rfl
    · refine (fQ (aF hb) _ _ _ _).trans ?_
      simp only [gk,dq,f9,hU,hG,cond_false];rfl
theorem UD {b:Bs} (hb:IsB b) (a e:Int) {z0 z1 z2:Int} (hz0:0≤z0∧z0<256) (hz1:0≤z1∧z1<256) (hz2:0≤z2∧z2<256) (hl:cO b e=true→nf b e= [bT z0,bT z1,bT z2]):VCx Tryz.prog ae 0 kp [.ptr 0 0] ⟨[aE b a e], []⟩ fun x T' =>x=fL b e∧T' =gk b a e:=by
  obtain ⟨hn0,hn1⟩:=AI hb e
  refine VCx.keepQ 1 0 (Nat.le_refl _) (Nat.le_refl _) (ai ac aa (AJ [bT z0,bT z1,bT z2]) ah (MI b a e z0 z1 z2 _) ?_)
  refine ⟨⟨rfl,hb⟩,⟨rfl,aF hb⟩, ?_⟩
  by_cases h1:aB 1 b e=0
  · refine aM (by rw [dy];exact congrArg Bool.not (decide_eq_true h1)) ?_
    by_cases h2:aL 1 b e≤32
    · have hG:cO b e=true:=by unfold cO;rw [decide_eq_true h1,decide_eq_true h2];rfl
      have hL:=hl hG
      refine aM (decide_eq_false (by omega)) ?_
      try delta jC jD jE
      rw [Gn hn0 hn1]
      refine ⟨⟨⟨rfl,aF hb⟩,hL⟩,⟨rfl,aF (aF hb)⟩, ?_⟩
      have eT:∀l:List VO,VT.keep ⟨aE (aA (fK (aL 1 b e)) (aA 1 b e) (aB 1 b e)) (bt (fK (aL 1 b e)) (aA 1 b e) (aB 1 b e) (bt 1 b e a)) (aB (fK (aL 1 b e)) (aA 1 b e) (aB 1 b e))::l, []⟩ 1 0=gk b a e:=fun l=>by
        rw [fQ (aF (aF hb))];simp only [gk,dq,f9,hU,o6,hG,cond_true]
      by_cases h3:o6 b e=0
      · have hO:bE b e=true:=by unfold bE;rw [hG,decide_eq_true h3];rfl
        refine aM (by rw [dy];exact congrArg Bool.not (decide_eq_true h3)) ⟨⟨hn0,h2⟩, ?_,eT _⟩
        unfold fL cB cC
        rw [hO]
        simp only [cond_true]
        refine congrArg (fun y=>TV.tup [.agg [.val (.int .u32 (hJ y (aL 1 b e))), .val (.int .i64 (aL 1 b e))], .val (.bool true)]) ?_
        rw [hL]
        have ha:=rx z0 z1 z2 0
        rw [cp (n:=0) (z:=z0) (by omega) (by omega) (by omega) (by omega)]
        rw [cp (n:=(0*256+z0)) (z:=z1) (by omega) (by omega) (by omega) (by omega)]
        rw [cp (n:=((0*256+z0)*256+z1)) (z:=z2) (by omega) (by omega) (by omega) (by omega)]
        rw [cp (n:=(((0*256+z0)*256+z1)*256+z2)) (z:=0) (by omega) (by omega) (by omega) (by omega)]
        have hw64:IntKind.wrap .u64 ((((0*256+z0)*256+z1)*256+z2)*256+0)=((((0*256+z0)*256+z1)*256+z2)*256+0):=by simp only [IntKind.wrap,IntKind.bits,IntKind.signed];simp<;>omega
        have hw32:IntKind.wrap .u32 ((((0*256+z0)*256+z1)*256+z2)*256+0)=((((0*256+z0)*256+z1)*256+z2)*256+0):=by simp only [IntKind.wrap,IntKind.bits,IntKind.signed];simp<;>omega
        rw [ha.2.1]
        first | rw [hw64,hw32] | rw [hw32] | skip
        omega
      · have hO:bE b e=false:=by unfold bE;rw [hG,decide_eq_false h3];rfl
        refine aQ (by rw [dy];exact congrArg Bool.not (decide_eq_false h3)) ⟨?_,eT _⟩
        unfold fL cB cC
        rw [hO];rfl
    · have hG:cO b e=false:=by unfold cO;rw [decide_eq_false h2,Bool.and_false]
      have hO:bE b e=false:=by unfold bE;rw [hG];rfl
      refine aQ (decide_eq_true (by omega)) ⟨?_, ?_⟩
      · unfold fL cB cC
        rw [hO];rfl
      · refine (fQ (aF hb) _ _ _ _).trans ?_
        simp only [gk,dq,f9,hU,hG,cond_false];rfl
  · have hG:cO b e=false:=by unfold cO;rw [decide_eq_false h1,Bool.false_and]
    have hO:bE b e=false:=by unfold bE;rw [hG];rfl
    refine aQ (by rw [dy];exact congrArg Bool.not (decide_eq_false h1)) ⟨?_, ?_⟩
    · unfold fL cB cC
      rw [hO];rfl
    · refine (fQ (aF hb) _ _ _ _).trans ?_
      simp only [gk,dq,f9,hU,hG,cond_false];rfl
theorem UE {b:Bs} (hb:IsB b) (a e:Int) {z0 z1 z2 z3:Int} (hz0:0≤z0∧z0<256) (hz1:0≤z1∧z1<256) (hz2:0≤z2∧z2<256) (hz3:0≤z3∧z3<256) (hl:cO b e=true→nf b e= [bT z0,bT z1,bT z2,bT z3]):VCx Tryz.prog ae 0 kp [.ptr 0 0] ⟨[aE b a e], []⟩ fun x T' =>x=fL b e∧T' =gk b a e:=by
  obtain ⟨hn0,hn1⟩:=AI hb e
  refine VCx.keepQ 1 0 (Nat.le_refl _) (Nat.le_refl _) (ai ac aa (AJ [bT z0,bT z1,bT z2,bT z3]) ah (MJ b a e z0 z1 z2 z3 _) ?_)
  refine ⟨⟨rfl,hb⟩,⟨rfl,aF hb⟩, ?_⟩
  by_cases h1:aB 1 b e=0
  · refine aM (by rw [dy];exact congrArg Bool.not (decide_eq_true h1)) ?_
    by_cases h2:aL 1 b e≤32
    · have hG:cO b e=true:=by unfold cO;rw [decide_eq_true h1,decide_eq_true h2];rfl
      have hL:=hl hG
      refine aM (decide_eq_false (by omega)) ?_
      try delta jC jD jE
      rw [Gn hn0 hn1]
      refine ⟨⟨⟨rfl,aF hb⟩,hL⟩,⟨rfl,aF (aF hb)⟩, ?_⟩
      have eT:∀l:List VO,VT.keep ⟨aE (aA (fK (aL 1 b e)) (aA 1 b e) (aB 1 b e)) (bt (fK (aL 1 b e)) (aA 1 b e) (aB 1 b e) (bt 1 b e a)) (aB (fK (aL 1 b e)) (aA 1 b e) (aB 1 b e))::l, []⟩ 1 0=gk b a e:=fun l=>by
        rw [fQ (aF (aF hb))];simp only [gk,dq,f9,hU,o6,hG,cond_true]
      by_cases h3:o6 b e=0
      · have hO:bE b e=true:=by unfold bE;rw [hG,decide_eq_true h3];rfl
        refine aM (by rw [dy];exact congrArg Bool.not (decide_eq_true h3)) ⟨⟨hn0,h2⟩, ?_,eT _⟩
        unfold fL cB cC
        rw [hO]
        simp only [cond_true]
        refine congrArg (fun y=>TV.tup [.agg [.val (.int .u32 (hJ y (aL 1 b e))), .val (.int .i64 (aL 1 b e))], .val (.bool true)]) ?_
        rw [hL]
        have ha:=rx z0 z1 z2 z3
        rw [cp (n:=0) (z:=z0) (by omega) (by omega) (by omega) (by omega)]
        rw [cp (n:=(0*256+z0)) (z:=z1) (by omega) (by omega) (by omega) (by omega)]
        rw [cp (n:=((0*256+z0)*256+z1)) (z:=z2) (by omega) (by omega) (by omega) (by omega)]
        rw [cp (n:=(((0*256+z0)*256+z1)*256+z2)) (z:=z3) (by omega) (by omega) (by omega) (by omega)]
        have hw64:IntKind.wrap .u64 ((((0*256+z0)*256+z1)*256+z2)*256+z3)=((((0*256+z0)*256+z1)*256+z2)*256+z3):=by simp only [IntKind.wrap,IntKind.bits,IntKind.signed];simp<;>omega
        have hw32:IntKind.wrap .u32 ((((0*256+z0)*256+z1)*256+z2)*256+z3)=((((0*256+z0)*256+z1)*256+z2)*256+z3):=by simp only [IntKind.wrap,IntKind.bits,IntKind.signed];simp<;>omega
        rw [ha.1]
        first | rw [hw64,hw32] | rw [hw32] | skip
        omega
      · have hO:bE b e=false:=by unfold bE;rw [hG,decide_eq_false h3];rfl
        refine aQ (by rw [dy];exact congrArg Bool.not (decide_eq_false h3)) ⟨?_,eT _⟩
        unfold fL cB cC
        rw [hO];rfl
    · have hG:cO b e=false:=by unfold cO;rw [decide_eq_false h2,Bool.and_false]
      have hO:bE b e=false:=by unfold bE;rw [hG];rfl
      refine aQ (decide_eq_true (by omega)) ⟨?_, ?_⟩
      · unfold fL cB cC
        rw [hO];rfl
      · refine (fQ (aF hb) _ _ _ _).trans ?_
        simp only [gk,dq,f9,hU,hG,cond_false];rfl
  · have hG:cO b e=false:=by unfold cO;rw [decide_eq_false h1,Bool.false_and]
    have hO:bE b e=false:=by unfold bE;rw [hG];rfl
    refine aQ (by rw [dy];exact congrArg Bool.not (decide_eq_false h1)) ⟨?_, ?_⟩
    · unfold fL cB cC
      rw [hO];rfl
    · refine (fQ (aF hb) _ _ _ _).trans ?_
      simp only [gk,dq,f9,hU,hG,cond_false];rfl
theorem Gp {b:Bs} (hb:IsB b) (e:Int):cO b e=false∨nf b e= []∨(∃z0,(0≤z0∧z0<256)∧nf b e= [bT z0])∨(∃z0 z1,(0≤z0∧z0<256)∧(0≤z1∧z1<256)∧nf b e= [bT z0,bT z1])∨(∃z0 z1 z2,(0≤z0∧z0<256)∧(0≤z1∧z1<256)∧(0≤z2∧z2<256)∧nf b e= [bT z0,bT z1,bT z2])∨
  ∃z0 z1 z2 z3,(0≤z0∧z0<256)∧(0≤z1∧z1<256)∧(0≤z2∧z2<256)∧(0≤z3∧z3<256)∧nf b e= [bT z0,bT z1,bT z2,bT z3]:=by
 obtain ⟨hn0,hn1⟩:=AI hb e
 by_cases hg:cO b e=true
 ·refine .inr ?_
  have h32:aL 1 b e≤32:=by
   simp only [cO,Bool.and_eq_true,decide_eq_true_eq] at hg;exact hg.2
  obtain ⟨⟨l,hl,hz⟩,_⟩:IsB (nf b e):=gC (aF hb)
  have hlen:l.length≤4:=by
   have h1:((nf b e).length:Int)=bif cn (fK (aL 1 b e)) (aA 1 b e) (aB 1 b e) then fK (aL 1 b e) else 0:=sH
   have h2:fK (aL 1 b e)≤4:=by
    unfold fK
    have:=Int.tdiv_eq_ediv_of_nonneg (a:=aL 1 b e+7) (b:=8) (by omega)
    omega
   have h3:(nf b e).length=l.length:=by rw [hl];simp [bV]
   cases hc:cn (fK (aL 1 b e)) (aA 1 b e) (aB 1 b e)<;>rw [hc] at h1
   ·simp only [cond_false] at h1;omega
   ·simp only [cond_true] at h1;omega
  rw [hl]
  rcases l with _ | ⟨a,_ | ⟨c,_ | ⟨d,_ | ⟨f,_ | ⟨g,l⟩⟩⟩⟩⟩
  ·exact .inl rfl
  ·exact .inr (.inl ⟨a,hz a (by simp),rfl⟩)
  ·exact .inr (.inr (.inl ⟨a,c,hz a (by simp),hz c (by simp),rfl⟩))
  ·exact .inr (.inr (.inr (.inl ⟨a,c,d,hz a (by simp),hz c (by simp),hz d (by simp),rfl⟩)))
  ·exact .inr (.inr (.inr (.inr ⟨a,c,d,f,hz a (by simp),hz c (by simp),hz d (by simp),hz f (by simp),rfl⟩)))
  ·simp only [List.length_cons] at hlen;omega
 ·exact .inl (Bool.eq_false_iff.2 hg)
theorem MM {b:Bs} (hb:IsB b) (a e:Int):VCx Tryz.prog ae 0 kp [.ptr 0 0] ⟨[aE b a e], []⟩ fun x T' =>x=fL b e∧T' =gk b a e:=by
 rcases Gp hb e with h | h | ⟨z0,h0,h⟩ | ⟨z0,z1,h0,h1,h⟩ | ⟨z0,z1,z2,h0,h1,h2,h⟩ | ⟨z0,z1,z2,z3,h0,h1,h2,h3,h⟩
 ·exact Pj hb a e fun hg=>by rw [h] at hg;cases hg
 ·exact Pj hb a e fun _=>h
 ·exact UB hb a e h0 fun _=>h
 ·exact UC hb a e h0 h1 fun _=>h
 ·exact UD hb a e h0 h1 h2 fun _=>h
 ·exact UE hb a e h0 h1 h2 h3 fun _=>h
end
section
open Go.RowKit

def TVle (x y:TV):Prop:=∀g w u,VR g w x u→VR g w y u
def TVleL:List TV→List TV→Prop
 | [], []=>True
 | x::l,y::m=>TVle x y∧TVleL l m
 | _,_=>False
theorem TVle.refl (x:TV):TVle x x:=fun _ _ _ h=>h
theorem TVle.of_eq {x y:TV} (h:x=y):TVle x y:=h▸TVle.refl x
theorem TVle.nil (size:Nat):TVle (.val (.slice none 0 0)) (.vec size [] .none):=fun _ _ _ h=>by
 obtain rfl:=h.val_inv
 exact .nil trivial
theorem TVle.vec (size:Nat) (es:List (List TV)) (tok:Tok):TVle (.vec size es tok) (.vec size es .none):=fun _ _ _ h=>mg h
theorem TVleL.at:∀{l m:List TV},TVleL l m→l.length=m.length∧∀(j:Nat) x y,l[j]?=some x→m[j]?=some y→TVle x y
 | [], [],_=>⟨rfl,fun j _ _ h=>by simp at h⟩
 | a::l,b::m,h=>by
  obtain ⟨h1,h2⟩:=TVleL.at h.2
  refine ⟨by simp [h1],fun j x y hx hy=> ?_⟩
  cases j with
  | zero=>simp at hx hy;subst hx hy;exact h.1
  | succ j=>exact h2 j x y (by simpa using hx) (by simpa using hy)
 | [],_::_,h=>h.elim
 | _::_, [],h=>h.elim
theorem TVleL.vrs {l m:List TV} (h:TVleL l m) {g:Gh} {w:World} {us:List Value} (hv:VRs g w l us):VRs g w m us:=by
 obtain ⟨h1,h2⟩:=h.at
 refine ⟨by rw [hv.1,h1],fun j y u hy hu=> ?_⟩
 have hj:j<l.length:=by rw [h1];exact (List.getElem?_eq_some_iff.1 hy).1
 exact h2 j _ y (List.getElem?_eq_getElem hj) hy g w u (hv.2 j _ u (List.getElem?_eq_getElem hj) hu)
theorem TVle.tup {l m:List TV} (h:TVleL l m):TVle (.tup l) (.tup m):=fun g w u hu=>by
 obtain ⟨us,rfl,hv⟩:=hu.tup_inv
 obtain ⟨h1,h2⟩:=h.vrs hv
 exact .tup h1 h2
theorem TVle.agg {l m:List TV} (h:TVleL l m):TVle (.agg l) (.agg m):=fun g w u hu=>by
 cases hu with
 | agg hl hv=>
  obtain ⟨h1,h2⟩:=h.vrs ⟨hl,hv⟩
  exact .agg h1 h2
theorem VCx.toLe {P:Program} {G:aU} {f:FuncId} {xs:List TV} {T:VT} {y:TV} {Q:VT→Prop} (h:VCx P G 0 f xs T fun x T' =>TVle x y∧Q T'):VCx P G 0 f xs T fun x T' =>x=y∧Q T' :=by
 intro g w us rw0 hG hx
 refine Calls.mono (h g w us rw0 hG hx) ?_
 rintro e w' ⟨v,x,g',T',he,⟨hq,hQ⟩,e',r',hv,hfx⟩
 exact ⟨v,_,g',T',he,⟨rfl,hQ⟩,e',r',hq _ _ _ hv,hfx⟩
end
section
open Go.RowKit

def KP:aV:=fun ro ys T K=>match ys with
 | [.ptr k 0]=>match T.objs[k]? with
  | some (.cells [.val (.bool true), .vec 1 b .none, .val (.int .i64 a), .val (.int .i64 e)])=>(Nat.ble ro k=true∧IsB b)∧K (.tup [.agg [.val (.int .u32 (cB b e)), .val (.int .i64 (cC b e))], .val (.bool (bE b e))]) {T with objs:=T.objs.set k (aE (dq b e) (f9 b e a) (hU b e))}
  | _=>False
 | _=>False
def cV (p:Int × Int):List TV:= [.val (.int .u32 p.1), .val (.int .i64 p.2)]
def ya:List Nat:= [2,3,4,5]
def ry (L:Bs):List TV:= [.val (.slice none 0 0), .val (.bool false), .ptr 0 0, .vec 2 L (.tail 0 L.length)]
def Pk (O:Bs→Int→Int→VO) (L:Bs) (ok:Bool) (K:KX):Prop:=∀(bz Lz:Bs) (az ez cz dz:Int),bif ok then K .normal (aR 25 ya (ry L)) ⟨[O bz az ez], [(L.length,2,true)]⟩ [] else K .ret (aR 25 ya (ry Lz)) ⟨[O bz az ez, .cells [.val (.int .u32 cz), .val (.int .i64 dz)]], [(Lz.length,2,true)]⟩ []
def T4 (O:Bs→Int→Int→VO) (b L:Bs) (ok:Bool) (c0:Code):Nat→Option (b6 × Code):=cJ [(0,eU 25 ya [(5,2)] (ry []) ⟨[O b 0 0], [(0,2,true)]⟩ (Pk O L ok),c0)]
theorem SN (b L:Bs) (ok:Bool) (Q:TV→VT→Prop):au Tryz.prog ae (aC [(lM,gD)]) aT 300 (T4 aE b L ok (aH Tryz.prog nd 0)) 0 nd [.vec 1 b .none] aG Q=
 (IsB (b)∧
 ((aH Tryz.prog nd (0:Nat)=aH Tryz.prog nd (0:Nat))∧
 (((@Eq (Option Nat) .none .none)∧
 ((@Eq (Nat) 0 0)∧
 ((@Eq (List Nat) [] [])∧
 (((@Eq (Option TV) (.some aO) (.some aO))∧
 True)∧
 ((@Eq (VT) ⟨[(.cells [ax,(aI b),aD,aD])], [(0,(2,true))]⟩ ⟨[(.cells [ax,(aI b),aD,aD])], [(0,(2,true))]⟩)∧
 ((@Eq (Bool) true true)∧
 (@Eq (List TV) [aO,aj,eg,vt] [aO,aj,eg,vt])))))))∧
 (∀bz:Bs,(∀Lz:Bs,(∀az:Int,(∀ez:Int,(∀cz:Int,(∀dz:Int,(bif ok
 then Q (.tup [(gZ L (List.length L)),ax]) ⟨[(.cells [ax,(aI bz),(ak az),(ak ez)])], [((List.length L),(2,true))]⟩
 else Q y7 ⟨[(.cells [ax,(aI bz),(ak az),(ak ez)]),(mi cz dz)], [((List.length Lz),(2,true))]⟩)))))))))):=by kernel_rfl
abbrev AK (b:Bs):VO:=(mi (cB b (0:Int)) (cC b (0:Int)))
theorem Pm (b L:Bs) (a:Int) (Q:Exit→List TV→VT→List Nat→Nat→Prop):vx Tryz.prog ae (aC [(jA,lS),(kp,KP)]) (bc [(999999, .dead,none),(23, .vec 2 (L++ [cV (cB b 0,cC b 0)]) (.tail 0 (L.length+1)),some fun T=>{T with tails:= [(L.length+1,2,true)]})]) 300 aK none 0 (cI Tryz.prog nd 0) (aR 25 ya (ry L)) ⟨[aE b a 0], [(L.length,2,true)]⟩ [] (dm ya Q)=
 (((@Eq (Bool) true true)∧
 IsB (b))∧
 (bif decide (bp b (0:Int)>(0:Int))
 then (((@Eq (Bool) true true)∧
 IsB (b))∧
 (bif !bE b (0:Int)
 then Q .ret (EB L (List.length L)) ⟨[(.cells [ax,(aI (dq b (0:Int))),(ak (f9 b (0:Int) a)),(ak (hU b (0:Int)))]),(AK b)], [((List.length L),(2,true))]⟩ [] 25
 else (ba Tryz.prog (fun _=> .none) 0 ⟨[(.cells [ax,(aI (dq b (0:Int))),(ak (f9 b (0:Int) a)),(ak (hU b (0:Int)))]),(AK b)], [((List.length L),(2,true))]⟩ (.call ⟨(.builtin .append), #[(.tmp 20),(.tmp 22)], #[58,58]⟩) [(20,(gZ L (List.length L))),(22,(.vec 2 [[(.val (.int .u32 (cB b (0:Int)))),(.val (.int .i64 (cC b (0:Int))))]] .full))] (gZ (L++ [cV (cB b (0:Int),cC b (0:Int))]) (List.length L+(1:Nat))) ⟨[(.cells [ax,(aI (dq b (0:Int))),(ak (f9 b (0:Int) a)),(ak (hU b (0:Int)))]),(AK b)], [((List.length L+(1:Nat)),(2,true))]⟩∧
 Q .normal (EB (L++ [cV (cB b (0:Int),cC b (0:Int))]) (List.length L+(1:Nat))) ⟨[(.cells [ax,(aI (dq b (0:Int))),(ak (f9 b (0:Int) a)),(ak (hU b (0:Int)))]),(AK b)], [((List.length L+(1:Nat)),(2,true))]⟩ [] 25)))
 else Q (.exit 0) (EB L (List.length L)) ⟨[(.cells [ax,(aI b),(ak a),aD])], [((List.length L),(2,true))]⟩ [] 25)):=by kernel_rfl
end
section
open Go.RowKit

theorem Pn:∀ro ys T K,KP ro ys T K→VCx Tryz.prog ae ro kp ys T K:=by
 intro ro ys T K hw
 unfold KP at hw
 split at hw
 ·rename_i k
  split at hw
  ·rename_i b a e ho
   obtain ⟨⟨hro,hb⟩,hk⟩:=hw
   refine VCx.at1 (Q:=fun x o' l' =>x=fL b e∧o' =aE (dq b e) (f9 b e a) (hU b e)∧l' = []) aq (Nat.le_of_ble_eq_true hro) ho rfl (bC hb a e _ _) (ys1:= [.ptr 0 0]) (by simp [ar,TV.ren,bb]) ((MM hb a e).mono fun x T' ⟨h1,h2⟩=>⟨_,_,h2,h1,rfl,rfl⟩) ?_
   rintro x o' l' ⟨rfl,rfl,rfl⟩
   rw [bC (AH hb)]
   simpa [TV.ren,fL,ar] using hk
  ·exact hw.elim
 ·exact hw.elim
def je:Nat→Bs→List (Int × Int)→Option (List (Int × Int))
 | 0,_,_=>none
 | k+1,b,acc=>bif decide (bp b 0>0) then (bif bE b 0 then je k (dq b 0) (acc++ [(cB b 0,cC b 0)]) else none) else some acc
def yb (b:Bs):Option (List (Int × Int)):=je (b.length+1) b []
def aY (b:Bs):Bs:=((yb b).getD []).map cV
def hZ (b:Bs):Bool:=(yb b).isSome
def yc (b:Bs):TV:= .tup [.vec 2 (aY b) .none, .val (.bool (hZ b))]
theorem vz (b:Bs):bp b 0=b.length:=rfl
theorem Po {b:Bs} (h:bE b 0=true):hU b 0=0:=by
 simp only [bE,Bool.and_eq_true,decide_eq_true_eq] at h
 simp only [hU,h.1,cond_true,h.2]
theorem lD {n:Int} {b:Bs} {e:Int}:(aA n b e).length≤b.length:=by
 unfold aA;cases cn n b e
 ·exact Nat.le_refl _
 ·simp only [cond_true,List.length_drop];omega
theorem AL {b:Bs} (hl:bp b 0>0):(dq b 0).length<b.length:=by
 have h1:(aA 1 b 0).length<b.length:=by
  rw [vz] at hl
  have hk:cn 1 b 0=true:=by simp only [cn,decide_true,decide_eq_true (show (1:Int)≤b.length by omega)];rfl
  unfold aA
  rw [hk]
  simp only [cond_true,List.length_drop]
  omega
 unfold dq;cases cO b 0
 ·exact h1
 ·exact Nat.lt_of_le_of_lt lD h1
theorem yd:∀(k j:Nat) (b:Bs) (acc:List (Int × Int)),b.length<k→b.length<j→je k b acc=je j b acc
 | 0,_,_,_,h,_=>absurd h (Nat.not_lt_zero _)
 | _,0,_,_,_,h=>absurd h (Nat.not_lt_zero _)
 | k+1,j+1,b,acc,h1,h2=>by
  unfold je
  by_cases hl:bp b 0>0
  ·have:=AL hl
   rw [decide_eq_true hl,yd k j (dq b 0) _ (by omega) (by omega)]
  ·rw [decide_eq_false hl];rfl
theorem Gq {b:Bs} {acc:List (Int × Int)} (hl:bp b 0>0) (ho:bE b 0=true):je (b.length+1) b acc=je ((dq b 0).length+1) (dq b 0) (acc++ [(cB b 0,cC b 0)]):=by
 have:=AL hl
 rw [yd ((dq b 0).length+1) b.length (dq b 0) _ (by omega) (by omega)]
 simp only [je,decide_eq_true hl,ho,cond_true]
theorem JI {b:Bs} {acc:List (Int × Int)} (hl:bp b 0>0) (ho:bE b 0=false):je (b.length+1) b acc=none:=by
 simp only [je,decide_eq_true hl,ho,cond_true,cond_false]
theorem JJ {b:Bs} {acc:List (Int × Int)} (hl:¬bp b 0>0):je (b.length+1) b acc=some acc:=by
 simp only [je,decide_eq_false hl,cond_false]
theorem pS:∃inf:TypeInfo,Tryz.prog.info? 186=some inf∧inf.size=2∧inf.bytes+1≤1000∧inf.zero=some (.agg #[.int .u32 0, .int .i64 0]):=
 ⟨(Tryz.prog.info? 186).getD default,by kernel_rfl,by kernel_rfl,Nat.le_of_ble_eq_true (by kernel_rfl),by kernel_rfl⟩
theorem JK {T T1:VT} {s x:Operand} {l:List (Nat × TV)} {es es2:List (List TV)} {k n:Nat} {bn:Bool} (hs:cZ T 2 (aS ae l s)=some (es,k,n,bn,T1)) (hx:gY 2 (aS ae l x)=some es2) (hb:es.length+es2.length≤1000001):
    ba Tryz.prog ae 0 T (.call ⟨.builtin .append, #[s,x], #[58,58]⟩) l (.vec 2 (es++es2) (.tail k (n+es2.length))) {T1 with tails:=T1.tails.set k (n+es2.length,2,bn)}:=by
  obtain ⟨inf,i1,i2,i3,i4⟩:=pS
  have h:=gj (inf:=inf) (P:=Tryz.prog) (G:=ae) (ro:=0) (T:=T) (T1:=T1) (t:=58) (tx:=58) (s:=s) (x:=x) (l:=l) (es:=es) (es2:=es2) (k:=k) (n:=n) (bn:=bn) Tryz.underlying58 i1 i4 (by rw [i2];rfl) (by rw [i2];decide) (by kernel_rfl) (by rw [i2];exact hs) (by rw [i2];exact hx)
    (by have h1:=i3
        have h2:=Nat.mul_le_mul hb h1
        omega)
  rw [i2] at h
  exact h
theorem jF (f g:Nat→Option Nat):∀l:List (Int × Int),bg f g (l.map cV)=l.map cV
 | []=>rfl
 | a::l=>by simp only [List.map_cons,bg,jF f g l];rfl
theorem Gs:∀(l:List (Int × Int)) p,((l++ [p]).map cV)=l.map cV++ [cV p]:=fun l p=>by rw [List.map_append];rfl
def Gt (O:Bs→Int→Int→VO) (b0:Bs) (e:Exit) (vs:List TV) (T:VT):Prop:=
 (∃(acc:List (Int × Int)) (bz:Bs) (az ez:Int),yb b0=some acc∧e= .normal∧vs=ry (acc.map cV)∧T=⟨[O bz az ez], [(acc.length,2,true)]⟩)∨
 (∃(Lz bz:Bs) (az ez cz dz:Int),yb b0=none∧e= .ret∧vs=ry Lz∧T=⟨[O bz az ez, .cells [.val (.int .u32 cz), .val (.int .i64 dz)]], [(Lz.length,2,true)]⟩)
theorem Gu {O:Bs→Int→Int→VO} {b0:Bs} {K:KX} (hK:Pk O (aY b0) (hZ b0) K) {e:Exit} {vs:List TV} {T:VT} (h:Gt O b0 e vs T):K e (aR 25 ya vs) T []:=by
 rcases h with ⟨acc,bz,az,ez,h1,rfl,rfl,rfl⟩ | ⟨Lz,bz,az,ez,cz,dz,h1,rfl,rfl,rfl⟩
 ·have:=hK bz [] az ez 0 0
  simp only [hZ,h1,Option.isSome_some,cond_true,aY,Option.getD_some,List.length_map] at this
  exact this
 ·have:=hK bz Lz az ez cz dz
  simp only [hZ,h1,Option.isSome_none,cond_false] at this
  exact this
structure Pp where
 b:Bs
 a:Int
 acc:List (Int × Int)
theorem JL {b0:Bs} (h0:IsB b0) (K:KX) (hK:Pk aE (aY b0) (hZ b0) K):VWx Tryz.prog ae none 0 (aH Tryz.prog nd 0) (aR 25 ya (ry [])) ⟨[aE b0 0 0], [(0,2,true)]⟩ [] K:=by
  let sl:Pp→List TV:=fun s=>ry (s.acc.map cV)
  let TT:Pp→VT:=fun s=>⟨[aE s.b s.a 0], [(s.acc.length,2,true)]⟩
  refine dS (f:=nd) (id:=0) (by kernel_rfl) 25 ya (fun s:Pp=>s.b.length) sl TT (fun s=>IsB s.b∧s.acc.length+s.b.length≤b0.length∧je (s.b.length+1) s.b s.acc=yb b0) 1 1 (fun _ _=>⟨Nat.le_refl _,Nat.le_refl _⟩)
    (Gt aE b0) (fun s hs=> ?_) ⟨b0,0, []⟩ ⟨h0,by simp,rfl⟩ K (fun e vs T hq=>Gu hK hq)
  obtain ⟨b,a,acc⟩:=s
  obtain ⟨hb,hlen,hgo⟩:=hs
  have hsm:=h0.small
  simp only at hb hlen hgo
  have hS:aZ Tryz.prog ae (aC [(jA,lS),(kp,KP)]):=aJ fun p hp=>by
    rcases List.mem_cons.1 hp with rfl | hp;exact nc
    obtain rfl:=List.mem_singleton.1 hp;exact Pn
  have hv:=Pm b (acc.map cV) a
  rw [List.length_map] at hv
  refine b7 ac aa hS ah (hv _) ?_
  refine ⟨⟨rfl,hb⟩, ?_⟩
  by_cases hl:bp b 0>0
  · refine aQ (decide_eq_true hl) ⟨⟨rfl,hb⟩, ?_⟩
    cases ho:bE b 0
    · exact aQ rfl ⟨rfl,rfl, .inr ⟨acc.map cV,_,_,_,_,_,by rw [←hgo];exact JI hl ho,rfl,by simp only [ry,List.length_map],by rw [List.length_map];rfl⟩⟩
    · have hlt:=AL hl
      have he:=Po ho
      try delta AK
      rw [he]
      refine aM rfl ⟨?_,rfl,rfl,⟨dq b 0,f9 b 0 a,acc++ [(cB b 0,cC b 0)]⟩,⟨AH hb,by simp only [List.length_append,List.length_cons,List.length_nil];omega,by rw [←hgo];exact (Gq hl ho).symm⟩,hlt, .inr ⟨?_, ?_⟩⟩
      · have h:=JK (T:=⟨[aE (dq b 0) (f9 b 0 a) 0, .cells [.val (.int .u32 (cB b 0)), .val (.int .i64 (cC b 0))]], [(acc.length,2,true)]⟩) (T1:=⟨[aE (dq b 0) (f9 b 0 a) 0, .cells [.val (.int .u32 (cB b 0)), .val (.int .i64 (cC b 0))]], [(acc.length,2,true)]⟩) (s:= .tmp 20) (x:= .tmp 22) (l:= [(20, .vec 2 (acc.map cV) (.tail 0 acc.length)),(22, .vec 2 [cV (cB b 0,cC b 0)] .full)]) (es:=acc.map cV) (es2:= [cV (cB b 0,cC b 0)]) (k:=0) (n:=acc.length) (bn:=true)
          (by simp [aS,ea,cZ]) rfl (by simp only [List.length_map,List.length_cons,List.length_nil];omega)
        exact h
      · simp only [VT.keep,List.take_succ_cons,List.take_zero,List.map_cons,List.map_nil]
        rw [show VO.cells [.val (.bool true), .vec 1 (dq b 0) .none, .val (.int .i64 (f9 b 0 a)), .val (.int .i64 0)]=aE (dq b 0) (f9 b 0 a) 0 from rfl,bC (AH hb)]
        simp only [TT,List.length_append,List.length_cons,List.length_nil]
      · have e1:=jF (aw 1) (aw 1) (acc++ [(cB b 0,cC b 0)])
        rw [Gs] at e1
        simp only [ar,TV.ren,e1,Tok.ren]
        simp only [sl,ry,Gs,List.length_append,List.length_map,List.length_cons,List.length_nil]
        rfl
  · exact aM (decide_eq_false hl) ⟨rfl,rfl, .inl ⟨acc,b,a,0,by rw [←hgo];exact JJ hl,rfl,by simp only [ry,List.length_map],rfl⟩⟩
theorem MN {b:Bs} (h:IsB b):dD Tryz.prog ae (T4 aE b (aY b) (hZ b) (aH Tryz.prog nd 0)):=bL fun p hp=>by
 obtain rfl:=List.mem_singleton.1 hp
 exact cA fun K hK=>JL h K hK
theorem MO {b:Bs} (h:hZ b=false):aY b= []:=by
 unfold aY hZ at*
 cases hc:yb b with
 | none=>rfl
 | some l=>rw [hc] at h;cases h
theorem kV (b:Bs) (f g:Nat→Option Nat):bg f g (aY b)=aY b:=jF f g _
theorem Gv {b:Bs} {x:TV} {ok:Bool} (h:ok=hZ b) (hx:x=(bif ok then .tup [.vec 2 (aY b) (.tail 0 (aY b).length), .val (.bool true)] else .tup [.val (.slice none 0 0), .val (.bool false)])):TVle (x.ren (aw 0) (aw 0)) (yc b):=by
 subst h hx
 unfold yc
 cases h:hZ b
 ·rw [MO h]
  exact TVle.tup ⟨TVle.nil 2,TVle.refl _,trivial⟩
 ·refine TVle.of_eq ?_
  simp only [cond_true,TV.ren,ar,kV,Tok.ren]
  rfl
theorem Pq {b:Bs} (hb:IsB b):VCx Tryz.prog ae 0 nd [.vec 1 b .none] ⟨[], []⟩ fun x T' =>x=yc b∧T' =⟨[], []⟩:=by
 refine VCx.toLe (Q:=fun T' =>T' =⟨[], []⟩) (VCx.keepQ 0 0 (Nat.le_refl _) (Nat.le_refl _) (ai ac aa (aJ fun p hp=>by obtain rfl:=List.mem_singleton.1 hp;exact mE) (MN hb) (SN b (aY b) (hZ b) _) ?_))
 refine ⟨hb,rfl,⟨rfl,rfl,rfl,⟨rfl,trivial⟩,rfl,rfl,rfl⟩,fun bz Lz az ez cz dz=> ?_⟩
 cases h:hZ b
 ·exact ⟨Gv h.symm rfl,rfl⟩
 ·exact ⟨Gv h.symm rfl,rfl⟩
theorem MP (b:Bs) (f g:Nat→Option Nat):(yc b).ren f g=yc b:=by
 simp only [yc,TV.ren,ar,kV,Tok.ren]
end
section
open Go.RowKit

def kE (kind:IntKind) (n:Nat):aV:=fun ro ys T K=>match ys with
 | [.ptr k 0]=>match T.objs[k]? with
  | some (.cells [.val (.bool true), .vec 1 b .none, .val (.int .i64 a), .val (.int .i64 e)])=>(Nat.ble ro k=true∧IsB b)∧∀(z:Int) (bz:Bs) (az ez:Int),(z=aL n b e∧bz=aA n b e∧ez=aB n b e)→K (.val (.int kind z)) {T with objs:=T.objs.set k (aE bz az ez)}
  | _=>False
 | _=>False
def ye:aV:=fun ro ys T K=>match ys with
 | [.ptr k 0, .val (.int .i64 n)]=>match T.objs[k]? with
  | some (.cells [.val (.bool true), .vec 1 b .none, .val (.int .i64 a), .val (.int .i64 e)])=>(Nat.ble ro k=true∧IsB b)∧∀(v bz:Bs) (az ez:Int),(v=bR n b e∧bz=aA n b e∧ez=aB n b e)→K (.vec 1 v .none) {T with objs:=T.objs.set k (aE bz az ez)}
  | _=>False
 | _=>False
def za:aV:=fun ro ys T K=>match ys with
 | [.ptr k 0, .val (.int .i64 n)]=>match T.objs[k]? with
  | some (.cells [.val (.bool true), .vec 1 b .none, .val (.int .i64 a), .val (.int .i64 e)])=>(Nat.ble ro k=true∧IsB b)∧∀(v bz:Bs) (az ez:Int),(v=bR n b e∧bz=aA n b e∧ez=aB n b e)→K (.ptr T.objs.length 0) {T with objs:=T.objs.set k (aE bz az ez)++ [aE v 0 0]}
  | _=>False
 | _=>False
def vA:aV:=fun ro ys T K=>match ys with
 | [.ptr k 0]=>match T.objs[k]? with
  | some (.cells [.val (.bool true), .vec 1 b .none, .val (.int .i64 a), .val (.int .i64 e)])=>(Nat.ble ro k=true∧IsB b)∧∀(v bz:Bs) (az ez:Int),(v=bR (bp b e) b e∧bz=aA (bp b e) b e∧ez=aB (bp b e) b e)→K (.vec 1 v .none) {T with objs:=T.objs.set k (aE bz az ez)}
  | _=>False
 | _=>False
theorem lE {kind:IntKind} {n:Nat} {ro:Nat} {ys:List TV} {T:VT} {K:TV→VT→Prop} (h:kE kind n ro ys T K):kB kind n ro ys T K:=by
 unfold kE at h
 split at h
 ·split at h
  ·rename_i ho
   unfold kB
   simp only [ho]
   exact ⟨h.1,h.2 _ _ _ _ ⟨rfl,rfl,rfl⟩⟩
  ·exact h.elim
 ·exact h.elim
theorem AM {ro:Nat} {ys:List TV} {T:VT} {K:TV→VT→Prop} (h:ye ro ys T K):Au ro ys T K:=by
 unfold ye at h
 split at h
 ·split at h
  ·rename_i ho
   unfold Au
   simp only [ho]
   exact ⟨h.1,h.2 _ _ _ _ ⟨rfl,rfl,rfl⟩⟩
  ·exact h.elim
 ·exact h.elim
theorem JM {ro:Nat} {ys:List TV} {T:VT} {K:TV→VT→Prop} (h:za ro ys T K):vp ro ys T K:=by
 unfold za at h
 split at h
 ·split at h
  ·rename_i ho
   unfold vp
   simp only [ho]
   exact ⟨h.1,h.2 _ _ _ _ ⟨rfl,rfl,rfl⟩⟩
  ·exact h.elim
 ·exact h.elim
theorem Gw {ro:Nat} {ys:List TV} {T:VT} {K:TV→VT→Prop} (h:vA ro ys T K):q9 ro ys T K:=by
 unfold vA at h
 split at h
 ·split at h
  ·rename_i ho
   unfold q9
   simp only [ho]
   exact ⟨h.1,h.2 _ _ _ _ ⟨rfl,rfl,rfl⟩⟩
  ·exact h.elim
 ·exact h.elim
end
section
open Go.RowKit

def kr (b:Bs) (e:Int):Int:=aL 1 b e
def yf (b:Bs) (e:Int):Int:=aL 1 (aA 1 b e) (aB 1 b e)
def dE (b:Bs) (e:Int):Bs:=bR (yf b e) (aA 1 (aA 1 b e) (aB 1 b e)) (aB 1 (aA 1 b e) (aB 1 b e))
def fM (b:Bs) (e:Int):Bs:=aA (yf b e) (aA 1 (aA 1 b e) (aB 1 b e)) (aB 1 (aA 1 b e) (aB 1 b e))
def jl (b:Bs) (e:Int):Int:=aB (yf b e) (aA 1 (aA 1 b e) (aB 1 b e)) (aB 1 (aA 1 b e) (aB 1 b e))
def eW:Nat→Bs→Int→List (Int × Bs)→Bs × Int × List (Int × Bs)
 | 0,b,e,acc=>(b,e,acc)
 | k+1,b,e,acc=>bif decide (bp b e>0) then eW k (fM b e) (jl b e) (acc++ [(kr b e,dE b e)]) else (b,e,acc)
def CP (b:Bs) (e:Int):=eW (b.length+1) b e []
def ft (p:Int × Bs):List TV:= [.val (.int .i64 p.1), .vec 1 p.2 .none]
def ng (b:Bs) (e:Int):Bs:=(CP b e).1
def lT (b:Bs) (e:Int):Int:=(CP b e).2.1
def rz (b:Bs) (e:Int):List (Int × Bs):=(CP b e).2.2
def jV (b:Bs) (e:Int):Bs:=(rz b e).map ft
def vB (b:Bs) (e:Int):Bool:=decide (lT b e=0)
def ku:Nat→Bs→Int→List (Int × Bs)→Except Int (List (Int × Bs))
 | 0,_,_,_=> .error 0
 | k+1,b,e,acc=>bif decide (bp b e>0) then (bif decide (jl b e=0) then (bif decide (kr b e=2) then (bif vB (dE b e) 0 then ku k (fM b e) (jl b e) (acc++rz (dE b e) 0) else .error 0) else .error 4) else .error 0) else .ok acc
def o7 (b:Bs) (e:Int):=ku (b.length+1) b e []
def gf (b:Bs) (e:Int):Bool:=match o7 b e with
 | .ok _=>true
 | .error _=>false
def fu (b:Bs) (e:Int):Bs:=match o7 b e with
 | .ok l=>l.map ft
 | .error _=> []
def iX (b:Bs) (e:Int):Int:=match o7 b e with
 | .ok _=>0
 | .error s=>s

abbrev KQ:=49
abbrev lN:=114
abbrev lO:=77
abbrev KR:=47
def T5 (T:VT) (n s:Nat):VT:={T with tails:= [(n,s,true)]}
def tZ:List Nat:= [0,2,3,4]
def pT (L:Bs):List TV:= [.ptr 0 0, .val (.slice none 0 0), .val (.bool false), .vec 2 L (.tail 0 L.length)]
def Pr (b bz L:Bs) (a e ez:Int) (c0:Code):Nat→Option (b6 × Code):=cJ [(0,eU 25 tZ [(4,2)] (pT []) ⟨[aE b a e], [(0,2,true)]⟩ (fun K=>∀az:Int,K .normal (aR 25 tZ (pT L)) ⟨[aE bz az ez], [(L.length,2,true)]⟩ []),c0)]
def EF:aV:=fun ro ys T K=>match ys with
 | [.ptr k 0]=>match T.objs[k]? with
  | some (.cells [.val (.bool true), .vec 1 b .none, .val (.int .i64 a), .val (.int .i64 e)])=>(Nat.ble ro k=true∧IsB b)∧∀az:Int,K (.tup [.vec 2 (jV b e) .none, .val (.bool (vB b e))]) {T with objs:=T.objs.set k (aE (ng b e) az (lT b e))}
  | _=>False
 | _=>False
def rA:List Nat:= [0,2,3,4,5]
def kW (L:Bs) (s:Int):List TV:= [.ptr 0 0, .val (.slice none 0 0), .val (.int .i64 s), .val (.bool false), .vec 2 L (.tail 0 L.length)]
def JN (L:Bs) (s:Int) (ok:Bool) (K:KX):Prop:=∀(bz Lz by' :Bs) (az ez ay ey:Int),bif ok then K .normal (aR 37 rA (kW L 0)) ⟨[aE bz az ez], [(L.length,2,true)]⟩ [] else K .ret (aR 37 rA (kW Lz s)) ⟨[aE bz az ez,aE by' ay ey], [(Lz.length,2,true)]⟩ []
def Ps (b L:Bs) (a e s:Int) (ok:Bool) (c0:Code):Nat→Option (b6 × Code):=cJ [(0,eU 37 rA [(5,2)] (kW [] 0) ⟨[aE b a e], [(0,2,true)]⟩ (JN L s ok),c0)]
def KT:aV:=fun ro ys T K=>match ys with
 | [.ptr k 0]=>match T.objs[k]? with
  | some (.cells [.val (.bool true), .vec 1 b .none, .val (.int .i64 a), .val (.int .i64 e)])=>(Nat.ble ro k=true∧IsB b)∧∀(bz:Bs) (az ez:Int),bif gf b e then K (.tup [.vec 2 (fu b e) .none, .val (.int .i64 0), .val (.bool true)]) {T with objs:=T.objs.set k (aE bz az ez)} else K (.tup [.vec 2 [] .none, .val (.int .i64 (iX b e)), .val (.bool false)]) {T with objs:=T.objs.set k (aE bz az ez)}
  | _=>False
 | _=>False
abbrev AN (z0:Int) (z1:Int) (b:Bs):VT:=(SL (IntKind.wrap IntKind.i64 z0) (IntKind.wrap IntKind.i64 z1) (List.drop (2:Nat) b) (IntKind.wrap IntKind.i64 z0) (IntKind.wrap IntKind.i64 z1) (List.drop (2:Nat) b))
abbrev JO (z0:Int) (z1:Int) (b:Bs):VO:=(ep (IntKind.wrap IntKind.i64 z0) (IntKind.wrap IntKind.i64 z1) (List.drop (2:Nat) b))
theorem KU (b:Bs) (z0 z1:Int) (Q:TV→VT→Prop):au Tryz.prog ae (aC [(xW,oY)]) (bc [(999998, .dead,none),(10, .elt (bT z0),none),(14, .elt (bT z1),none),(18, .vec 1 (b.drop 2) .none,none)]) 300 aK 0 KQ [.vec 1 b .none] aG Q=
 (bif decide ((↑(List.length b):Int)<(2:Int))
 then Q sJ KM
 else (bo Tryz.prog (fun _=> .none) (.indexAddr 22 (.tmp 9) (.const (.int .i64 0))) [(9,(aI b))] (.elt [(bH z0)])∧
 (bo Tryz.prog (fun _=> .none) (.indexAddr 22 (.tmp 13) (.const (.int .i64 1))) [(13,(aI b))] (.elt [(bH z1)])∧
 (bo Tryz.prog (fun _=> .none) (.slice 22 (.tmp 17) (.some (.const (.int .i64 2))) .none .none) [(17,(aI b))] (aI (List.drop (2:Nat) b))∧
 (IsB (List.drop (2:Nat) b)∧
 (((@Eq (Option TV) (.some (bH z1)) (.some (bH z1)))∧
 ((@Eq (Option TV) (.some (bH z0)) (.some (bH z0)))∧
 True))∧
 (bif decide (IntKind.wrap IntKind.i64 z0≥(1:Int))
 then (bif decide (IntKind.wrap IntKind.i64 z0≤(255:Int))
 then (bif decide (IntKind.wrap IntKind.i64 z1≥(0:Int))
 then (bif decide (IntKind.wrap IntKind.i64 z1≤(255:Int))
 then (bif !decide ((↑(List.length (List.drop (2:Nat) b)):Int)≤(4075:Int))
 then Q sJ (AN z0 z1 b)
 else Q (.tup [(.agg [(ak (IntKind.wrap IntKind.i64 z0)),(ak (IntKind.wrap IntKind.i64 z1)),(aI (List.drop (2:Nat) b))]),ax]) ⟨[(JO z0 z1 b),(JO z0 z1 b),(JO z0 z1 b)], []⟩)
 else Q sJ (AN z0 z1 b))
 else Q sJ (AN z0 z1 b))
 else Q sJ (AN z0 z1 b))
 else Q sJ (AN z0 z1 b)))))))):=by kernel_rfl
theorem Pt (b bz L:Bs) (a e ez:Int) (Q:TV→VT→Prop):au Tryz.prog ae (aC [(iu,kC)]) aT 300 (Pr b bz L a e ez (aH Tryz.prog lN 0)) 0 lN [.ptr 0 0] (dv (aE b a e)) Q=
 ((aH Tryz.prog lN (0:Nat)=aH Tryz.prog lN (0:Nat))∧
 (((@Eq (Option Nat) .none .none)∧
 ((@Eq (Nat) 0 0)∧
 ((@Eq (List Nat) [] [])∧
 (((@Eq (Option TV) (.some aO) (.some aO))∧
 True)∧
 ((@Eq (VT) ⟨[(.cells [ax,(aI b),(ak a),(ak e)])], [(0,(2,true))]⟩ ⟨[(.cells [ax,(aI b),(ak a),(ak e)])], [(0,(2,true))]⟩)∧
 ((@Eq (Bool) true true)∧
 (@Eq (List TV) [eg,aO,aj,vt] [eg,aO,aj,vt])))))))∧
 (∀az:Int,(((@Eq (Bool) true true)∧
 IsB (bz))∧
 Q (.tup [(gZ L (List.length L)),(nY (av BinOp.eql (k6 ez (0:Int))))]) ⟨[(.cells [ax,(aI bz),(ak az),(ak ez)])], [((List.length L),(2,true))]⟩)))):=by kernel_rfl
theorem MQ (b L:Bs) (p:List TV) (a e:Int) (Q:Exit→List TV→VT→List Nat→Nat→Prop):vx Tryz.prog ae (aC [(jA,lS),(gU,kE .i64 1),(jd,ye)]) (bc [(999999, .dead,none),(20, .vec 2 (L++ [p]) (.tail 0 (L.length+1)),some fun T=>T5 T (L.length+1) 2)]) 300 aK none 0 (cI Tryz.prog lN 0) (aR 25 tZ (pT L)) ⟨[aE b a e], [(L.length,2,true)]⟩ [] (dm tZ Q)=
 (((@Eq (Bool) true true)∧
 IsB (b))∧
 (bif decide (bp b e>(0:Int))
 then (((@Eq (Bool) true true)∧
 IsB (b))∧
 (∀z:Int,(∀bz:Bs,(∀az:Int,(∀ez:Int,(((@Eq (Int) (z) (aL (1:Nat) b e))∧
 ((@Eq (Bs) (bz) (aA (↑(1:Nat):Int) b e))∧
 (@Eq (Int) (ez) (aB (↑(1:Nat):Int) b e))))→(((@Eq (Bool) true true)∧
 IsB (bz))∧
 (∀z_11:Int,(∀bz_12:Bs,(∀az_13:Int,(∀ez_14:Int,(((@Eq (Int) (z_11) (aL (1:Nat) bz ez))∧
 ((@Eq (Bs) (bz_12) (aA (↑(1:Nat):Int) bz ez))∧
 (@Eq (Int) (ez_14) (aB (↑(1:Nat):Int) bz ez))))→(((@Eq (Bool) true true)∧
 IsB (bz_12))∧
 (∀v:Bs,(∀bz_17:Bs,(∀az_18:Int,(∀ez_19:Int,(((@Eq (Bs) (v) (bR z_11 bz_12 ez_14))∧
 ((@Eq (Bs) (bz_17) (aA z_11 bz_12 ez_14))∧
 (@Eq (Int) (ez_19) (aB z_11 bz_12 ez_14))))→(ba Tryz.prog (fun _=> .none) 0 ⟨[(.cells [ax,(aI bz_17),(ak az_18),(ak ez_19)]),(vu z v)], [((List.length L),(2,true))]⟩ (.call ⟨(.builtin .append), #[(.tmp 17),(.tmp 19)], #[55,55]⟩) [(17,(gZ L (List.length L))),(19,(.vec 2 [[(.val (.int .i64 (z))),(.vec 1 (v) .none)]] .full))] (gZ (L++ [p]) (List.length L+(1:Nat))) ⟨[(.cells [ax,(aI bz_17),(ak az_18),(ak ez_19)]),(vu z v)], [((List.length L+(1:Nat)),(2,true))]⟩∧
 Q .normal [eg,aO,aj,(gZ (L++ [p]) (List.length L+(1:Nat)))] ⟨[(.cells [ax,(aI bz_17),(ak az_18),(ak ez_19)]),(vu z v)], [((List.length L+(1:Nat)),(2,true))]⟩ [] 25)))))))))))))))))))
 else Q (.exit 0) [eg,aO,aj,(gZ L (List.length L))] ⟨[(.cells [ax,(aI b),(ak a),(ak e)])], [((List.length L),(2,true))]⟩ [] 25)):=by kernel_rfl
theorem Pu (b L:Bs) (a e s:Int) (ok:Bool) (Q:TV→VT→Prop):au Tryz.prog ae br aT 300 (Ps b L a e s ok (aH Tryz.prog lO 0)) 0 lO [.ptr 0 0] (dv (aE b a e)) Q=
 ((aH Tryz.prog lO (0:Nat)=aH Tryz.prog lO (0:Nat))∧
 (((@Eq (Option Nat) .none .none)∧
 ((@Eq (Nat) 0 0)∧
 ((@Eq (List Nat) [] [])∧
 (((@Eq (Option TV) (.some aO) (.some aO))∧
 True)∧
 ((@Eq (VT) ⟨[(.cells [ax,(aI b),(ak a),(ak e)])], [(0,(2,true))]⟩ ⟨[(.cells [ax,(aI b),(ak a),(ak e)])], [(0,(2,true))]⟩)∧
 ((@Eq (Bool) true true)∧
 (@Eq (List TV) KL KL)))))))∧
 (∀bz:Bs,(∀Lz:Bs,(∀by' :Bs,(∀az:Int,(∀ez:Int,(∀ay:Int,(∀ey:Int,(bif ok
 then Q (.tup [(gZ L (List.length L)),aD,ax]) ⟨[(.cells [ax,(aI bz),(ak az),(ak ez)])], [((List.length L),(2,true))]⟩
 else Q (.tup [aO,(ak s),aj]) ⟨[(.cells [ax,(aI bz),(ak az),(ak ez)]),(.cells [ax,(aI by'),(ak ay),(ak ey)])], [((List.length Lz),(2,true))]⟩)))))))))):=by kernel_rfl
theorem MR (b L C:Bs) (a e:Int) (Q:Exit→List TV→VT→List Nat→Nat→Prop):vx Tryz.prog ae (aC [(jA,lS),(gU,kE .i64 1),(EC,za),(iu,kC),(lN,EF)]) (bc [(999999, .dead,none),(35, .vec 2 (L++C) (.tail 0 (L.length+C.length)),some fun T=>T5 T (L.length+C.length) 2)]) 300 aK none 0 (cI Tryz.prog lO 0) (aR 37 rA (kW L 0)) ⟨[aE b a e], [(L.length,2,true)]⟩ [] (dm rA Q)=
 (((@Eq (Bool) true true)∧
 IsB (b))∧
 (bif decide (bp b e>(0:Int))
 then (((@Eq (Bool) true true)∧
 IsB (b))∧
 (∀z:Int,(∀bz:Bs,(∀az:Int,(∀ez:Int,(((@Eq (Int) (z) (aL (1:Nat) b e))∧
 ((@Eq (Bs) (bz) (aA (↑(1:Nat):Int) b e))∧
 (@Eq (Int) (ez) (aB (↑(1:Nat):Int) b e))))→(((@Eq (Bool) true true)∧
 IsB (bz))∧
 (∀z_11:Int,(∀bz_12:Bs,(∀az_13:Int,(∀ez_14:Int,(((@Eq (Int) (z_11) (aL (1:Nat) bz ez))∧
 ((@Eq (Bs) (bz_12) (aA (↑(1:Nat):Int) bz ez))∧
 (@Eq (Int) (ez_14) (aB (↑(1:Nat):Int) bz ez))))→(((@Eq (Bool) true true)∧
 IsB (bz_12))∧
 (∀v:Bs,(∀bz_17:Bs,(∀az_18:Int,(∀ez_19:Int,(((@Eq (Bs) (v) (bR z_11 bz_12 ez_14))∧
 ((@Eq (Bs) (bz_17) (aA z_11 bz_12 ez_14))∧
 (@Eq (Int) (ez_19) (aB z_11 bz_12 ez_14))))→(((@Eq (Bool) true true)∧
 IsB (bz_17))∧
 (bif av BinOp.neq (k6 ez_19 (0:Int))
 then Q .ret (y0 L (List.length L)) ⟨[(.cells [ax,(aI bz_17),(ak az_18),(ak ez_19)]),(.cells [ax,(aI v),aD,aD])], [((List.length L),(2,true))]⟩ [] 37
 else (bif av BinOp.neq (k6 z (2:Int))
 then Q .ret [eg,aO,na,aj,(gZ L (List.length L))] ⟨[(.cells [ax,(aI bz_17),(ak az_18),(ak ez_19)]),(.cells [ax,(aI v),aD,aD])], [((List.length L),(2,true))]⟩ [] 37
 else (((@Eq (Bool) true true)∧
 IsB (v))∧
 (∀az_21:Int,(bif !vB v (0:Int)
 then Q .ret (y0 L (List.length L)) ⟨[(.cells [ax,(aI bz_17),(ak az_18),(ak ez_19)]),(.cells [ax,(aI (ng v (0:Int))),(ak az_21),(ak (lT v (0:Int)))])], [((List.length L),(2,true))]⟩ [] 37
 else (ba Tryz.prog (fun _=> .none) 0 ⟨[(.cells [ax,(aI bz_17),(ak az_18),(ak ez_19)]),(.cells [ax,(aI (ng v (0:Int))),(ak az_21),(ak (lT v (0:Int)))])], [((List.length L),(2,true))]⟩ (.call ⟨(.builtin .append), #[(.tmp 33),(.tmp 34)], #[55,55]⟩) [(33,(gZ L (List.length L))),(34,(eX (jV v (0:Int))))] (gZ (L++C) (List.length L+List.length C)) ⟨[(.cells [ax,(aI bz_17),(ak az_18),(ak ez_19)]),(.cells [ax,(aI (ng v (0:Int))),(ak az_21),(ak (lT v (0:Int)))])], [((List.length L+List.length C),(2,true))]⟩∧
 Q .normal (y0 (L++C) (List.length L+List.length C)) ⟨[(.cells [ax,(aI bz_17),(ak az_18),(ak ez_19)]),(.cells [ax,(aI (ng v (0:Int))),(ak az_21),(ak (lT v (0:Int)))])], [((List.length L+List.length C),(2,true))]⟩ [] 37)))))))))))))))))))))))))
 else Q (.exit 0) (y0 L (List.length L)) ⟨[(.cells [ax,(aI b),(ak a),(ak e)])], [((List.length L),(2,true))]⟩ [] 37)):=by kernel_rfl
abbrev JP:TV:=(pQ [[(.val (.int .u8 0))], [(.val (.int .u8 4))]])
theorem SO (b:Bs) (pas:Int) (Q:TV→VT→Prop):au Tryz.prog ae (aC [(lM,gD),(gU,kE .i64 1),(lr,kE .i64 2),(y9,kE .u32 4),(jA,lS),(lO,KT)]) (bc [(999999, .dead,none)]) 300 aK 0 KR [.vec 1 b .none, .val (.int .i64 pas)] aG Q=
 (bif decide ((↑(List.length b):Int)<(10:Int))
 then Q vq ⟨[bM,lq,bM,lq], []⟩
 else (IsB (b)∧
 (((@Eq (Bool) true true)∧
 IsB (b))∧
 (∀z:Int,(∀bz:Bs,(∀az:Int,(∀ez:Int,(((@Eq (Int) (z) (aL (1:Nat) b (0:Int)))∧
 ((@Eq (Bs) (bz) (aA (↑(1:Nat):Int) b (0:Int)))∧
 (@Eq (Int) (ez) (aB (↑(1:Nat):Int) b (0:Int)))))→(bif av BinOp.neq (k6 z (4:Int))
 then Q (.tup [sI,(.agg [du,dX,JP])]) ⟨[bM,(.cells [du,dX,JP]),(.cells [ax,(aI bz),(ak az),(ak ez)]),bM,(.cells [du,dX,JP])], []⟩
 else (((@Eq (Bool) true true)∧
 IsB (bz))∧
 (∀z_8:Int,(∀bz_9:Bs,(∀az_10:Int,(∀ez_11:Int,(((@Eq (Int) (z_8) (aL (2:Nat) bz ez))∧
 ((@Eq (Bs) (bz_9) (aA (↑(2:Nat):Int) bz ez))∧
 (@Eq (Int) (ez_11) (aB (↑(2:Nat):Int) bz ez))))→(((@Eq (Bool) true true)∧
 IsB (bz_9))∧
 (∀z_13:Int,(∀bz_14:Bs,(∀az_15:Int,(∀ez_16:Int,(((@Eq (Int) (z_13) (aL (2:Nat) bz_9 ez_11))∧
 ((@Eq (Bs) (bz_14) (aA (↑(2:Nat):Int) bz_9 ez_11))∧
 (@Eq (Int) (ez_16) (aB (↑(2:Nat):Int) bz_9 ez_11))))→(((@Eq (Bool) true true)∧
 IsB (bz_14))∧
 (∀z_18:Int,(∀bz_19:Bs,(∀az_20:Int,(∀ez_21:Int,(((@Eq (Int) (z_18) (aL (4:Nat) bz_14 ez_16))∧
 ((@Eq (Bs) (bz_19) (aA (↑(4:Nat):Int) bz_14 ez_16))∧
 (@Eq (Int) (ez_21) (aB (↑(4:Nat):Int) bz_14 ez_16))))→(((@Eq (Bool) true true)∧
 IsB (bz_19))∧
 (∀z_23:Int,(∀bz_24:Bs,(∀az_25:Int,(∀ez_26:Int,(((@Eq (Int) (z_23) (aL (1:Nat) bz_19 ez_21))∧
 ((@Eq (Bs) (bz_24) (aA (↑(1:Nat):Int) bz_19 ez_21))∧
 (@Eq (Int) (ez_26) (aB (↑(1:Nat):Int) bz_19 ez_21))))→(bif av BinOp.eql (k6 z_8 (0:Int))
 then Q KK ⟨[bM,yZ,(.cells [ax,(aI bz_24),(ak az_25),(ak ez_26)]),(eV z_8 z_13 z_18),bM,yZ], []⟩
 else (bif decide (pas≥(1:Int))
 then (bif av BinOp.neq (k6 z_8 pas)
 then Q KK ⟨[bM,yZ,(.cells [ax,(aI bz_24),(ak az_25),(ak ez_26)]),(eV z_8 z_13 z_18),bM,yZ], []⟩
 else (bif av BinOp.eql (k6 z_13 (0:Int))
 then (bif av BinOp.eql (aP (Value.int IntKind.u32 z_18) (Value.int IntKind.u32 (0:Int)))
 then Q yY ⟨[bM,n8,(.cells [ax,(aI bz_24),(ak az_25),(ak ez_26)]),(eV z_8 z_13 z_18),bM,n8], []⟩
 else (((@Eq (Bool) true true)∧
 IsB (bz_24))∧
 (bif av BinOp.neq (k6 z_23 (bp bz_24 ez_26))
 then Q vq ⟨[bM,lq,(.cells [ax,(aI bz_24),(ak az_25),(ak ez_26)]),(eV z_8 z_13 z_18),bM,lq], []⟩
 else (((@Eq (Bool) true true)∧
 IsB (bz_24))∧
 (∀bz_28:Bs,(∀az_29:Int,(∀ez_30:Int,(bif gf bz_24 ez_26
 then Q (yX z_8 z_13 z_18 (fu bz_24 ez_26)) ⟨[(n7 z_8 z_13 z_18 (fu bz_24 ez_26)),cg,(.cells [ax,(aI bz_28),(ak az_29),(ak ez_30)]),(n7 z_8 z_13 z_18 (fu bz_24 ez_26))], []⟩
 else Q (yW (iX bz_24 ez_26)) ⟨[bM,(n6 (iX bz_24 ez_26)),(.cells [ax,(aI bz_28),(ak az_29),(ak ez_30)]),(eV z_8 z_13 z_18),bM,(n6 (iX bz_24 ez_26))], []⟩))))))))
 else (bif decide (z_13≥(3:Int))
 then (bif !decide (z_13≤(65535:Int))
 then Q yV ⟨[bM,nZ,(.cells [ax,(aI bz_24),(ak az_25),(ak ez_26)]),(eV z_8 z_13 z_18),bM,nZ], []⟩
 else (bif av BinOp.eql (aP (Value.int IntKind.u32 z_18) (Value.int IntKind.u32 (0:Int)))
 then Q yY ⟨[bM,n8,(.cells [ax,(aI bz_24),(ak az_25),(ak ez_26)]),(eV z_8 z_13 z_18),bM,n8], []⟩
 else (((@Eq (Bool) true true)∧
 IsB (bz_24))∧
 (bif av BinOp.neq (k6 z_23 (bp bz_24 ez_26))
 then Q vq ⟨[bM,lq,(.cells [ax,(aI bz_24),(ak az_25),(ak ez_26)]),(eV z_8 z_13 z_18),bM,lq], []⟩
 else (((@Eq (Bool) true true)∧
 IsB (bz_24))∧
 (∀bz_28:Bs,(∀az_29:Int,(∀ez_30:Int,(bif gf bz_24 ez_26
 then Q (yX z_8 z_13 z_18 (fu bz_24 ez_26)) ⟨[(n7 z_8 z_13 z_18 (fu bz_24 ez_26)),cg,(.cells [ax,(aI bz_28),(ak az_29),(ak ez_30)]),(n7 z_8 z_13 z_18 (fu bz_24 ez_26))], []⟩
 else Q (yW (iX bz_24 ez_26)) ⟨[bM,(n6 (iX bz_24 ez_26)),(.cells [ax,(aI bz_28),(ak az_29),(ak ez_30)]),(eV z_8 z_13 z_18),bM,(n6 (iX bz_24 ez_26))], []⟩)))))))))
 else Q yV ⟨[bM,nZ,(.cells [ax,(aI bz_24),(ak az_25),(ak ez_26)]),(eV z_8 z_13 z_18),bM,nZ], []⟩)))
 else (bif av BinOp.eql (k6 z_13 (0:Int))
 then (bif av BinOp.eql (aP (Value.int IntKind.u32 z_18) (Value.int IntKind.u32 (0:Int)))
 then Q yY ⟨[bM,n8,(.cells [ax,(aI bz_24),(ak az_25),(ak ez_26)]),(eV z_8 z_13 z_18),bM,n8], []⟩
 else (((@Eq (Bool) true true)∧
 IsB (bz_24))∧
 (bif av BinOp.neq (k6 z_23 (bp bz_24 ez_26))
 then Q vq ⟨[bM,lq,(.cells [ax,(aI bz_24),(ak az_25),(ak ez_26)]),(eV z_8 z_13 z_18),bM,lq], []⟩
 else (((@Eq (Bool) true true)∧
 IsB (bz_24))∧
 (∀bz_28:Bs,(∀az_29:Int,(∀ez_30:Int,(bif gf bz_24 ez_26
 then Q (yX z_8 z_13 z_18 (fu bz_24 ez_26)) ⟨[(n7 z_8 z_13 z_18 (fu bz_24 ez_26)),cg,(.cells [ax,(aI bz_28),(ak az_29),(ak ez_30)]),(n7 z_8 z_13 z_18 (fu bz_24 ez_26))], []⟩
 else Q (yW (iX bz_24 ez_26)) ⟨[bM,(n6 (iX bz_24 ez_26)),(.cells [ax,(aI bz_28),(ak az_29),(ak ez_30)]),(eV z_8 z_13 z_18),bM,(n6 (iX bz_24 ez_26))], []⟩))))))))
 else (bif decide (z_13≥(3:Int))
 then (bif !decide (z_13≤(65535:Int))
 then Q yV ⟨[bM,nZ,(.cells [ax,(aI bz_24),(ak az_25),(ak ez_26)]),(eV z_8 z_13 z_18),bM,nZ], []⟩
 else (bif av BinOp.eql (aP (Value.int IntKind.u32 z_18) (Value.int IntKind.u32 (0:Int)))
 then Q yY ⟨[bM,n8,(.cells [ax,(aI bz_24),(ak az_25),(ak ez_26)]),(eV z_8 z_13 z_18),bM,n8], []⟩
 else (((@Eq (Bool) true true)∧
 IsB (bz_24))∧
 (bif av BinOp.neq (k6 z_23 (bp bz_24 ez_26))
 then Q vq ⟨[bM,lq,(.cells [ax,(aI bz_24),(ak az_25),(ak ez_26)]),(eV z_8 z_13 z_18),bM,lq], []⟩
 else (((@Eq (Bool) true true)∧
 IsB (bz_24))∧
 (∀bz_28:Bs,(∀az_29:Int,(∀ez_30:Int,(bif gf bz_24 ez_26
 then Q (yX z_8 z_13 z_18 (fu bz_24 ez_26)) ⟨[(n7 z_8 z_13 z_18 (fu bz_24 ez_26)),cg,(.cells [ax,(aI bz_28),(ak az_29),(ak ez_30)]),(n7 z_8 z_13 z_18 (fu bz_24 ez_26))], []⟩
 else Q (yW (iX bz_24 ez_26)) ⟨[bM,(n6 (iX bz_24 ez_26)),(.cells [ax,(aI bz_28),(ak az_29),(ak ez_30)]),(eV z_8 z_13 z_18),bM,(n6 (iX bz_24 ez_26))], []⟩)))))))))
 else Q yV ⟨[bM,nZ,(.cells [ax,(aI bz_24),(ak az_25),(ak ez_26)]),(eV z_8 z_13 z_18),bM,nZ], []⟩))))))))))))))))))))))))))))))))))))):=by kernel_rfl
end
section
open Go.RowKit

theorem Gx {b:Bs} {e:Int} (h:bp b e>0):e=0∧0<b.length:=by
 unfold bp at h
 by_cases he:e=0
 ·rw [decide_eq_true he] at h;simp only [cond_true] at h;exact ⟨he,by omega⟩
 ·rw [decide_eq_false he] at h;simp only [cond_false] at h;omega
theorem Pv (n:Int) (b:Bs) (e:Int):(bR n b e).length+(aA n b e).length≤b.length:=by
 unfold bR aA;cases h:cn n b e
 ·simp only [cond_false,List.length_nil];omega
 ·simp only [cond_true,List.length_take,List.length_drop];omega
theorem wX {b:Bs} {e:Int} (h:bp b e>0):(aA 1 b e).length<b.length:=by
 obtain ⟨rfl,hp⟩:=Gx h
 have hk:cn 1 b 0=true:=by simp only [cn,decide_true,decide_eq_true (show (1:Int)≤b.length by omega)];rfl
 unfold aA
 rw [hk]
 simp only [cond_true,List.length_drop]
 omega
theorem nh {b:Bs} {e:Int} (h:bp b e>0):(dE b e).length+(fM b e).length<b.length:=by
 have h1:=wX h
 have h2:=lD (n:=1) (b:=aA 1 b e) (e:=aB 1 b e)
 have h3:=Pv (yf b e) (aA 1 (aA 1 b e) (aB 1 b e)) (aB 1 (aA 1 b e) (aB 1 b e))
 unfold dE fM
 omega
theorem vC {b:Bs} {e:Int} (h:IsB b):IsB (dE b e):=gC (aF (aF h))
theorem vD {b:Bs} {e:Int} (h:IsB b):IsB (fM b e):=aF (aF (aF h))
theorem vE:∀(k j:Nat) (b:Bs) (e:Int) (acc:List (Int × Bs)),b.length<k→b.length<j→eW k b e acc=eW j b e acc
 | 0,_,_,_,_,h,_=>absurd h (Nat.not_lt_zero _)
 | _,0,_,_,_,_,h=>absurd h (Nat.not_lt_zero _)
 | k+1,j+1,b,e,acc,h1,h2=>by
  unfold eW
  by_cases hl:bp b e>0
  ·have:=nh hl
   rw [decide_eq_true hl,vE k j (fM b e) _ _ (by omega) (by omega)]
  ·rw [decide_eq_false hl];rfl
theorem EG {b:Bs} {e:Int} {acc:List (Int × Bs)} (hl:bp b e>0):eW (b.length+1) b e acc=eW ((fM b e).length+1) (fM b e) (jl b e) (acc++ [(kr b e,dE b e)]):=by
 have:=nh hl
 rw [vE ((fM b e).length+1) b.length (fM b e) _ _ (by omega) (by omega)]
 simp only [eW,decide_eq_true hl,cond_true]
theorem Gy {b:Bs} {e:Int} {acc:List (Int × Bs)} (hl:¬bp b e>0):eW (b.length+1) b e acc=(b,e,acc):=by
 simp only [eW,decide_eq_false hl,cond_false]
def AllB (l:List (Int × Bs)):Prop:=∀p∈l,IsB p.2
theorem AllB.app {l m:List (Int × Bs)} (h:AllB l) (k:AllB m):AllB (l++m):=fun p hp=>by
 rcases List.mem_append.1 hp with h1 | h1
 ·exact h p h1
 ·exact k p h1
theorem AllB.one {c:Int} {v:Bs} (h:IsB v):AllB [(c,v)]:=fun p hp=>by obtain rfl:=List.mem_singleton.1 hp;exact h
theorem AllB.nil:AllB []:=fun p hp=>by simp at hp
theorem AO:∀(k:Nat) (b:Bs) (e:Int) (acc:List (Int × Bs)),b.length<k→IsB b→AllB acc→IsB (eW k b e acc).1∧AllB (eW k b e acc).2.2∧(eW k b e acc).2.2.length≤acc.length+b.length
 | 0,_,_,_,h,_,_=>absurd h (Nat.not_lt_zero _)
 | k+1,b,e,acc,h1,hb,ha=>by
  unfold eW
  by_cases hl:bp b e>0
  ·have:=nh hl
   rw [decide_eq_true hl]
   obtain ⟨h2,h3,h4⟩:=AO k (fM b e) (jl b e) (acc++ [(kr b e,dE b e)]) (by omega) (vD hb) (ha.app (.one (vC hb)))
   refine ⟨h2,h3, ?_⟩
   simp only [List.length_append,List.length_cons,List.length_nil] at h4
   simp only [cond_true]
   omega
  ·rw [decide_eq_false hl]
   exact ⟨hb,ha,Nat.le_add_right _ _⟩
theorem vF {b:Bs} (e:Int) (h:IsB b):IsB (ng b e)∧AllB (rz b e)∧(rz b e).length≤b.length:=by
 obtain ⟨h1,h2,h3⟩:=AO (b.length+1) b e [] (Nat.lt_succ_self _) h .nil
 exact ⟨h1,h2,Nat.le_trans h3 (by simp)⟩
theorem kX (f g:Nat→Option Nat):∀{l:List (Int × Bs)},AllB l→bg f g (l.map ft)=l.map ft
 | [],_=>rfl
 | a::l,h=>by
  have h1:=kX f g (l:=l) fun p hp=>h p (List.mem_cons_of_mem _ hp)
  have h2:=(h a List.mem_cons_self).ren f g
  simp only [List.map_cons,bg,h1,ft,ar,TV.ren,h2,Tok.ren]
theorem yg:∀(k j:Nat) (b:Bs) (e:Int) (acc:List (Int × Bs)),b.length<k→b.length<j→ku k b e acc=ku j b e acc
 | 0,_,_,_,_,h,_=>absurd h (Nat.not_lt_zero _)
 | _,0,_,_,_,_,h=>absurd h (Nat.not_lt_zero _)
 | k+1,j+1,b,e,acc,h1,h2=>by
  unfold ku
  by_cases hl:bp b e>0
  ·have:=nh hl
   rw [decide_eq_true hl,yg k j (fM b e) _ _ (by omega) (by omega)]
  ·rw [decide_eq_false hl];rfl
theorem Gz {b:Bs} {e:Int} {acc:List (Int × Bs)} (hl:bp b e>0):ku (b.length+1) b e acc=bif decide (jl b e=0) then (bif decide (kr b e=2) then (bif vB (dE b e) 0 then ku ((fM b e).length+1) (fM b e) (jl b e) (acc++rz (dE b e) 0) else .error 0) else .error 4) else .error 0:=by
 have:=nh hl
 rw [yg ((fM b e).length+1) b.length (fM b e) _ _ (by omega) (by omega)]
 simp only [ku,decide_eq_true hl,cond_true]
theorem JQ {b:Bs} {e:Int} {acc:List (Int × Bs)} (hl:¬bp b e>0):ku (b.length+1) b e acc= .ok acc:=by
 simp only [ku,decide_eq_false hl,cond_false]
def ia (b:Bs):Bool:=decide (2≤b.length)&&(decide ((b.drop 2).length≤4075)&& !decide (eJ (b[0]?.getD [])=0))
def vG (b:Bs):TV:=bif ia b then .tup [.agg [.val (.int .i64 (eJ (b[0]?.getD []))), .val (.int .i64 (eJ (b[1]?.getD []))), .vec 1 (b.drop 2) .none], .val (.bool true)] else .tup [.agg [.val (.int .i64 0), .val (.int .i64 0), .vec 1 [] .none], .val (.bool false)]
theorem Pw:TVle (.tup [.agg [.val (.int .i64 0), .val (.int .i64 0), .val (.slice none 0 0)], .val (.bool false)]) (.tup [.agg [.val (.int .i64 0), .val (.int .i64 0), .vec 1 [] .none], .val (.bool false)]):=
 .tup ⟨.agg ⟨.refl _, .refl _, .nil 1,trivial⟩, .refl _,trivial⟩
theorem EH {b:Bs} (h:ia b=false):TVle (.tup [.agg [.val (.int .i64 0), .val (.int .i64 0), .val (.slice none 0 0)], .val (.bool false)]) (vG b):=by
 unfold vG;rw [h];exact Pw
theorem Px {b:Bs} (h:b.length<2):ia b=false:=by unfold ia;rw [decide_eq_false (by omega)];rfl
theorem Py {b:Bs} (hb:IsB b) (h:2≤b.length):∃z0 z1,(0≤z0∧z0<256)∧(0≤z1∧z1<256)∧b[0]?=some (bT z0)∧b[1]?=some (bT z1):=by
 obtain ⟨z0,h0,h1⟩:=hb.at (List.getElem?_eq_getElem (show 0<b.length by omega))
 obtain ⟨z1,h2,h3⟩:=hb.at (List.getElem?_eq_getElem (show 1<b.length by omega))
 exact ⟨z0,z1,h1,h3,by rw [List.getElem?_eq_getElem (show 0<b.length by omega),h0],by rw [List.getElem?_eq_getElem (show 1<b.length by omega),h2]⟩
theorem KV {b:Bs} {z0:Int} (e0:b[0]?=some (bT z0)):ia b=(decide (2≤b.length)&&(decide ((b.drop 2).length≤4075)&& !decide (z0=0))):=by unfold ia;rw [e0];rfl
theorem Pz {b:Bs} (hb:IsB b):VCx Tryz.prog ae 0 KQ [.vec 1 b .none] ⟨[], []⟩ fun x T' =>x=vG b∧T' =⟨[], []⟩:=by
  have hS:aZ Tryz.prog ae (aC [(xW,oY)]):=aJ fun p hp=>by obtain rfl:=List.mem_singleton.1 hp;exact rp
  by_cases h2:b.length<2
  · refine VCx.toLe (Q:=fun T' =>T' =⟨[], []⟩) (VCx.keepQ 0 0 (Nat.le_refl _) (Nat.le_refl _) (ai ac aa hS ah (KU b 0 0 _) ?_))
    exact aQ (decide_eq_true (by omega)) ⟨EH (Px h2),rfl⟩
  · obtain ⟨z0,z1,⟨a0,a1⟩,⟨c0,c1⟩,e0,e1⟩:=Py hb (by omega)
    refine VCx.toLe (Q:=fun T' =>T' =⟨[], []⟩) (VCx.keepQ 0 0 (Nat.le_refl _) (Nat.le_refl _) (ai ac aa hS ah (KU b z0 z1 _) ?_))
    refine aM (decide_eq_false (by omega)) ⟨wU rfl rfl (by decide) e0,wU rfl rfl (by decide) e1,rl rfl rfl (by decide) rfl (by omega),hb.drop 2,⟨rfl,rfl,trivial⟩, ?_⟩
    rw [bP (z:=z0) (by omega) (by omega),bP (z:=z1) (by omega) (by omega)]
    by_cases hz:z0≥1
    · refine aQ (decide_eq_true hz) (aQ (decide_eq_true (by omega)) (aQ (decide_eq_true (by omega)) (aQ (decide_eq_true (by omega)) ?_)))
      by_cases hd:(b.drop 2).length≤4075
      · have ho:ia b=true:=by rw [KV e0,decide_eq_true (show 2≤b.length by omega),decide_eq_true hd,decide_eq_false (show ¬z0=0 by omega)];rfl
        refine aM (by rw [decide_eq_true (show ((b.drop 2).length:Int)≤4075 by omega)];rfl) ⟨?_,rfl⟩
        unfold vG;rw [ho,e0,e1]
        refine TVle.of_eq ?_
        simp only [TV.ren,ar,(hb.drop 2).ren,Tok.ren,cond_true,Option.getD_some,eJ,bT]
      · have ho:ia b=false:=by unfold ia;rw [decide_eq_false hd,Bool.false_and,Bool.and_false]
        exact aQ (by rw [decide_eq_false (show ¬((b.drop 2).length:Int)≤4075 by omega)];rfl) ⟨EH ho,rfl⟩
    · have ho:ia b=false:=by rw [KV e0,decide_eq_true (show z0=0 by omega),Bool.not_true,Bool.and_false,Bool.and_false]
      exact aM (decide_eq_false hz) ⟨EH ho,rfl⟩
theorem AP:∃inf:TypeInfo,Tryz.prog.info? 101=some inf∧inf.size=2∧inf.bytes+1≤1000∧inf.zero=some (.agg #[.int .i64 0, .slice none 0 0]):=
 ⟨(Tryz.prog.info? 101).getD default,by kernel_rfl,by kernel_rfl,Nat.le_of_ble_eq_true (by kernel_rfl),by kernel_rfl⟩
theorem AQ {ro:Nat} {T T1:VT} {s x:Operand} {l:List (Nat × TV)} {es es2:List (List TV)} {k n:Nat} {bn:Bool} (hs:cZ T 2 (aS ae l s)=some (es,k,n,bn,T1)) (hx:gY 2 (aS ae l x)=some es2) (hb:es.length+es2.length≤2000001):
    ba Tryz.prog ae ro T (.call ⟨.builtin .append, #[s,x], #[55,55]⟩) l (.vec 2 (es++es2) (.tail k (n+es2.length))) {T1 with tails:=T1.tails.set k (n+es2.length,2,bn)}:=by
  obtain ⟨inf,i1,i2,i3,i4⟩:=AP
  have h:=gj (inf:=inf) (P:=Tryz.prog) (G:=ae) (ro:=ro) (T:=T) (T1:=T1) (t:=55) (tx:=55) (s:=s) (x:=x) (l:=l) (es:=es) (es2:=es2) (k:=k) (n:=n) (bn:=bn) Tryz.underlying55 i1 i4 (by rw [i2];rfl) (by rw [i2];decide) (by kernel_rfl) (by rw [i2];exact hs) (by rw [i2];exact hx)
    (by have h1:=i3
        have h2:=Nat.mul_le_mul hb h1
        omega)
  rw [i2] at h
  exact h
structure PA where
 b:Bs
 a:Int
 e:Int
 acc:List (Int × Bs)
theorem GA {b0:Bs} (h0:IsB b0) (a0 e0:Int) (K:KX) (hK:∀az:Int,K .normal (aR 25 tZ (pT (jV b0 e0))) ⟨[aE (ng b0 e0) az (lT b0 e0)], [((jV b0 e0).length,2,true)]⟩ []):VWx Tryz.prog ae none 0 (aH Tryz.prog lN 0) (aR 25 tZ (pT [])) ⟨[aE b0 a0 e0], [(0,2,true)]⟩ [] K:=by
  let sl:PA→List TV:=fun s=>pT (s.acc.map ft)
  let TT:PA→VT:=fun s=>⟨[aE s.b s.a s.e], [(s.acc.length,2,true)]⟩
  let Post:Exit→List TV→VT→Prop:=fun e vs T=>e= .normal∧∃az:Int,vs=pT (jV b0 e0)∧T=⟨[aE (ng b0 e0) az (lT b0 e0)], [((jV b0 e0).length,2,true)]⟩
  refine dS (f:=lN) (id:=0) (by kernel_rfl) 25 tZ (fun s:PA=>s.b.length) sl TT (fun s=>IsB s.b∧AllB s.acc∧s.acc.length+s.b.length≤b0.length∧eW (s.b.length+1) s.b s.e s.acc=CP b0 e0) 1 1 (fun _ _=>⟨Nat.le_refl _,Nat.le_refl _⟩)
    Post (fun s hs=> ?_) ⟨b0,a0,e0, []⟩ ⟨h0, .nil,by simp,rfl⟩ K (fun e vs T ⟨h1,az,h2,h3⟩=>by subst h1 h2 h3;exact hK az)
  obtain ⟨b,a,e,acc⟩:=s
  obtain ⟨hb,ha,hlen,hgo⟩:=hs
  have hsm:=h0.small
  simp only at hb ha hlen hgo
  have hS:aZ Tryz.prog ae (aC [(jA,lS),(gU,kE .i64 1),(jd,ye)]):=aJ fun p hp=>by
    rcases List.mem_cons.1 hp with rfl | hp;exact nc
    rcases List.mem_cons.1 hp with rfl | hp;exact fun ro ys T K h=>oZ _ _ _ _ (lE h)
    obtain rfl:=List.mem_singleton.1 hp;exact fun ro ys T K h=>rq _ _ _ _ (AM h)
  have hv:=MQ b (acc.map ft) (ft (kr b e,dE b e)) a e
  rw [List.length_map] at hv
  refine b7 ac aa hS ah (hv _) ?_
  refine ⟨⟨rfl,hb⟩, ?_⟩
  by_cases hl:bp b e>0
  · refine aQ (decide_eq_true hl) ⟨⟨rfl,hb⟩, ?_⟩
    rintro z bz az ez ⟨rfl,rfl,rfl⟩
    refine ⟨⟨rfl,aF hb⟩, ?_⟩
    rintro z bz az ez ⟨rfl,rfl,rfl⟩
    refine ⟨⟨rfl,aF (aF hb)⟩, ?_⟩
    rintro v bz az ez ⟨rfl,rfl,rfl⟩
    have hlt:=nh hl
    have hb2:=vD (e:=e) hb
    have ha2:=ha.app (.one (c:=kr b e) (vC (e:=e) hb))
    have e1:(acc++ [(kr b e,dE b e)]).map ft=acc.map ft++ [ft (kr b e,dE b e)]:=by rw [List.map_append];rfl
    refine ⟨?_,rfl,rfl,⟨fM b e,az,jl b e,acc++ [(kr b e,dE b e)]⟩,⟨hb2,ha2,by simp only [List.length_append,List.length_cons,List.length_nil];omega,by rw [←hgo];exact (EG hl).symm⟩,by simp only;omega, .inr ⟨?_, ?_⟩⟩
    · have h:=AQ (ro:=0) (T:=⟨[aE (fM b e) az (jl b e), .cells (ft (kr b e,dE b e))], [(acc.length,2,true)]⟩) (T1:=⟨[aE (fM b e) az (jl b e), .cells (ft (kr b e,dE b e))], [(acc.length,2,true)]⟩) (s:= .tmp 17) (x:= .tmp 19) (l:= [(17, .vec 2 (acc.map ft) (.tail 0 acc.length)),(19, .vec 2 [ft (kr b e,dE b e)] .full)]) (es:=acc.map ft) (es2:= [ft (kr b e,dE b e)]) (k:=0) (n:=acc.length) (bn:=true)
        (by simp [aS,ea,cZ]) rfl (by simp only [List.length_map,List.length_cons,List.length_nil];omega)
      exact h
    · refine (show VT.keep ⟨aE (fM b e) az (jl b e)::_,_⟩ 1 1=_ from ?_)
      simp only [VT.keep,List.take_succ_cons,List.take_zero,List.map_cons,List.map_nil,bC hb2]
      simp only [TT,List.length_append,List.length_cons,List.length_nil]
    · have e2:=kX (aw 1) (aw 1) ha2
      rw [e1] at e2
      simp only [ar,TV.ren,e2,Tok.ren]
      simp only [sl,pT,e1,List.length_append,List.length_map,List.length_cons,List.length_nil]
      rfl
  · have hE:=(Gy (acc:=acc) hl).symm.trans hgo
    refine aM (decide_eq_false hl) ⟨rfl,rfl,rfl,a, ?_, ?_⟩
    · simp only [pT,jV,rz,←hE,List.length_map]
    · simp only [ng,lT,jV,rz,←hE,List.length_map];rfl
theorem JR {b:Bs} (h:IsB b) (a e:Int):dD Tryz.prog ae (Pr b (ng b e) (jV b e) a e (lT b e) (aH Tryz.prog lN 0)):=bL fun p hp=>by
 obtain rfl:=List.mem_singleton.1 hp
 exact cA fun K hK=>GA h a e K hK
theorem MS {b:Bs} (hb:IsB b) (a e:Int):VCx Tryz.prog ae 0 lN [.ptr 0 0] ⟨[aE b a e], []⟩ fun x T' =>x= .tup [.vec 2 (jV b e) .none, .val (.bool (vB b e))]∧∃az,T' =⟨[aE (ng b e) az (lT b e)], []⟩:=by
 obtain ⟨h1,h2,h3⟩:=vF e hb
 refine VCx.keepQ 1 0 (Nat.le_refl _) (Nat.le_refl _) (ai ac aa (aJ fun p hp=>by obtain rfl:=List.mem_singleton.1 hp;exact o5) (JR hb a e) (Pt b (ng b e) (jV b e) a e (lT b e) _) ?_)
 refine ⟨rfl,⟨rfl,rfl,rfl,⟨rfl,trivial⟩,rfl,rfl,rfl⟩,fun az=>⟨⟨rfl,h1⟩, ?_,az,fQ h1 _ _ _ _⟩⟩
 have e2:bg (aw 1) (aw 0) (jV b e)=jV b e:=kX _ _ h2
 simp only [TV.ren,ar,e2,Tok.ren,ec]
 rfl
theorem MT:∀ro ys T K,EF ro ys T K→VCx Tryz.prog ae ro lN ys T K:=by
 intro ro ys T K hw
 unfold EF at hw
 split at hw
 ·rename_i k
  split at hw
  ·rename_i b a e ho
   obtain ⟨⟨hro,hb⟩,hk⟩:=hw
   obtain ⟨h1,h2,h3⟩:=vF e hb
   refine VCx.at1 (Q:=fun x o' l' =>x= .tup [.vec 2 (jV b e) .none, .val (.bool (vB b e))]∧(∃az,o' =aE (ng b e) az (lT b e))∧l' = []) aq (Nat.le_of_ble_eq_true hro) ho rfl (bC hb a e _ _) (ys1:= [.ptr 0 0]) (by simp [ar,TV.ren,bb]) ((MS hb a e).mono fun x T' ⟨h1,az,h2⟩=>⟨_,_,h2,h1,⟨az,rfl⟩,rfl⟩) ?_
   rintro x o' l' ⟨rfl,⟨az,rfl⟩,rfl⟩
   rw [bC h1]
   have e2:=kX (bf T.objs.length [k]) (bf T.tails.length []) h2
   simpa [TV.ren,ar,Tok.ren,jV,e2] using hk az
  ·exact hw.elim
 ·exact hw.elim
end
section
open Go.RowKit

structure JS where
 b:Bs
 a:Int
 e:Int
 acc:List (Int × Bs)
def CQ (b0:Bs) (e0:Int) (e:Exit) (vs:List TV) (T:VT):Prop:=
 (∃(l:List (Int × Bs)) (bz:Bs) (az ez:Int),o7 b0 e0= .ok l∧e= .normal∧vs=kW (l.map ft) 0∧T=⟨[aE bz az ez], [(l.length,2,true)]⟩)∨
 (∃(s:Int) (Lz bz bY:Bs) (az ez ay ey:Int),o7 b0 e0= .error s∧e= .ret∧vs=kW Lz s∧T=⟨[aE bz az ez,aE bY ay ey], [(Lz.length,2,true)]⟩)
theorem AR {b:Bs} {e:Int} {l:List (Int × Bs)} (h:o7 b e= .ok l):gf b e=true∧fu b e=l.map ft:=by
 unfold gf fu;rw [h];exact ⟨rfl,rfl⟩
theorem wY {b:Bs} {e s:Int} (h:o7 b e= .error s):gf b e=false∧fu b e= []∧iX b e=s:=by
 unfold gf fu iX;rw [h];exact ⟨rfl,rfl,rfl⟩
theorem EI {b0:Bs} {e0:Int} {K:KX} (hK:JN (fu b0 e0) (iX b0 e0) (gf b0 e0) K) {e:Exit} {vs:List TV} {T:VT} (h:CQ b0 e0 e vs T):K e (aR 37 rA vs) T []:=by
 rcases h with ⟨l,bz,az,ez,h1,rfl,rfl,rfl⟩ | ⟨s,Lz,bz,bY,az,ez,ay,ey,h1,rfl,rfl,rfl⟩
 ·obtain ⟨h2,h3⟩:=AR h1
  have:=hK bz [] [] az ez 0 0
  simp only [h2,cond_true,h3,List.length_map] at this
  exact this
 ·obtain ⟨h2,_,h3⟩:=wY h1
  have:=hK bz Lz bY az ez ay ey
  simp only [h2,cond_false,h3] at this
  exact this
theorem GB {b0:Bs} (h0:IsB b0) (a0 e0:Int) (K:KX) (hK:JN (fu b0 e0) (iX b0 e0) (gf b0 e0) K):VWx Tryz.prog ae none 0 (aH Tryz.prog lO 0) (aR 37 rA (kW [] 0)) ⟨[aE b0 a0 e0], [(0,2,true)]⟩ [] K:=by
  let sl:JS→List TV:=fun s=>kW (s.acc.map ft) 0
  let TT:JS→VT:=fun s=>⟨[aE s.b s.a s.e], [(s.acc.length,2,true)]⟩
  refine dS (f:=lO) (id:=0) (by kernel_rfl) 37 rA (fun s:JS=>s.b.length) sl TT (fun s=>IsB s.b∧AllB s.acc∧s.acc.length+s.b.length≤b0.length∧ku (s.b.length+1) s.b s.e s.acc=o7 b0 e0) 1 1 (fun _ _=>⟨Nat.le_refl _,Nat.le_refl _⟩)
    (CQ b0 e0) (fun s hs=> ?_) ⟨b0,a0,e0, []⟩ ⟨h0, .nil,by simp,rfl⟩ K (fun e vs T h=>EI hK h)
  obtain ⟨b,a,e,acc⟩:=s
  obtain ⟨hb,ha,hlen,hgo⟩:=hs
  have hsm:=h0.small
  simp only at hb ha hlen hgo
  have hS:aZ Tryz.prog ae (aC [(jA,lS),(gU,kE .i64 1),(EC,za),(iu,kC),(lN,EF)]):=aJ fun p hp=>by
    rcases List.mem_cons.1 hp with rfl | hp;exact nc
    rcases List.mem_cons.1 hp with rfl | hp;exact fun ro ys T K h=>oZ _ _ _ _ (lE h)
    rcases List.mem_cons.1 hp with rfl | hp;exact fun ro ys T K h=>Pe _ _ _ _ (JM h)
    rcases List.mem_cons.1 hp with rfl | hp;exact o5
    obtain rfl:=List.mem_singleton.1 hp;exact MT
  have hv:=MR b (acc.map ft) (jV (dE b e) 0) a e
  rw [List.length_map] at hv
  refine b7 ac aa hS ah (hv _) ?_
  refine ⟨⟨rfl,hb⟩, ?_⟩
  by_cases hl:bp b e>0
  · refine aQ (decide_eq_true hl) ⟨⟨rfl,hb⟩, ?_⟩
    rintro z bz az ez ⟨rfl,rfl,rfl⟩
    refine ⟨⟨rfl,aF hb⟩, ?_⟩
    rintro z bz az ez ⟨rfl,rfl,rfl⟩
    refine ⟨⟨rfl,aF (aF hb)⟩, ?_⟩
    rintro v bz az ez ⟨rfl,rfl,rfl⟩
    have hlt:=nh hl
    have hb2:=vD (e:=e) hb
    have hv2:=vC (e:=e) hb
    have hst:=Gz (acc:=acc) hl
    rw [hgo] at hst
    refine ⟨⟨rfl,hb2⟩, ?_⟩
    by_cases hz:jl b e=0
    · rw [decide_eq_true hz,cond_true] at hst
      refine aM (by rw [dy];exact congrArg Bool.not (decide_eq_true hz)) ?_
      by_cases hc:kr b e=2
      · rw [decide_eq_true hc,cond_true] at hst
        refine aM (by rw [dy];exact congrArg Bool.not (decide_eq_true hc)) ⟨⟨rfl,hv2⟩,fun ay=> ?_⟩
        obtain ⟨i1,i2,i3⟩:=vF 0 hv2
        cases ho:vB (dE b e) 0
        · rw [ho,cond_false] at hst
          exact aQ (congrArg Bool.not ho) ⟨rfl,rfl, .inr ⟨0,acc.map ft,_,_,_,_,_,_,hst,rfl,by simp only [kW,List.length_map],by rw [List.length_map];rfl⟩⟩
        · rw [ho,cond_true] at hst
          have ha2:=ha.app i2
          have e1:(acc++rz (dE b e) 0).map ft=acc.map ft++jV (dE b e) 0:=by rw [List.map_append];rfl
          have hcl:(jV (dE b e) 0).length=(rz (dE b e) 0).length:=List.length_map _
          refine aM (congrArg Bool.not ho) ⟨?_,rfl,rfl,⟨fM b e,az,jl b e,acc++rz (dE b e) 0⟩,⟨hb2,ha2,by simp only [List.length_append];omega,by rw [hst]⟩,by simp only;omega, .inr ⟨?_, ?_⟩⟩
          · have h:=AQ (ro:=0) (T:=⟨[aE (fM b e) az (jl b e),aE (ng (dE b e) 0) ay (lT (dE b e) 0)], [(acc.length,2,true)]⟩) (T1:=⟨[aE (fM b e) az (jl b e),aE (ng (dE b e) 0) ay (lT (dE b e) 0)], [(acc.length,2,true)]⟩) (s:= .tmp 33) (x:= .tmp 34) (l:= [(33, .vec 2 (acc.map ft) (.tail 0 acc.length)),(34, .vec 2 (jV (dE b e) 0) .none)]) (es:=acc.map ft) (es2:=jV (dE b e) 0) (k:=0) (n:=acc.length) (bn:=true)
              (by simp [aS,ea,cZ]) rfl (by rw [hcl,List.length_map];omega)
            exact h
          · refine (show VT.keep ⟨aE (fM b e) az (jl b e)::_,_⟩ 1 1=_ from ?_)
            simp only [VT.keep,List.take_succ_cons,List.take_zero,List.map_cons,List.map_nil,bC hb2]
            simp only [TT,List.length_append,hcl]
          · have e2:=kX (aw 1) (aw 1) ha2
            rw [e1] at e2
            simp only [ar,TV.ren,e2,Tok.ren]
            simp only [sl,kW,e1,List.length_append,List.length_map,hcl]
            rfl
      · rw [decide_eq_false hc,cond_false] at hst
        exact aQ (by rw [dy];exact congrArg Bool.not (decide_eq_false hc)) ⟨rfl,rfl, .inr ⟨4,acc.map ft,_,_,_,_,_,_,hst,rfl,by simp only [kW,List.length_map],by rw [List.length_map];rfl⟩⟩
    · rw [decide_eq_false hz,cond_false] at hst
      exact aQ (by rw [dy];exact congrArg Bool.not (decide_eq_false hz)) ⟨rfl,rfl, .inr ⟨0,acc.map ft,_,_,_,_,_,_,hst,rfl,by simp only [kW,List.length_map],by rw [List.length_map];rfl⟩⟩
  · have hE:=(JQ (acc:=acc) hl).symm.trans hgo
    exact aM (decide_eq_false hl) ⟨rfl,rfl, .inl ⟨acc,b,a,e,hE.symm,rfl,by simp only [kW,List.length_map],rfl⟩⟩
theorem JT {b:Bs} (h:IsB b) (a e:Int):dD Tryz.prog ae (Ps b (fu b e) a e (iX b e) (gf b e) (aH Tryz.prog lO 0)):=bL fun p hp=>by
 obtain rfl:=List.mem_singleton.1 hp
 exact cA fun K hK=>GB h a e K hK
theorem CR:∀(k:Nat) (b:Bs) (e:Int) (acc:List (Int × Bs)),IsB b→AllB acc→∀l,ku k b e acc= .ok l→AllB l
 | 0,_,_,_,_,_,l,h=>by cases h
 | k+1,b,e,acc,hb,ha,l,h=>by
  unfold ku at h
  cases h1:decide (bp b e>0)<;>rw [h1] at h
  ·injection h with h;subst h;exact ha
  ·cases h2:decide (jl b e=0)<;>rw [h2] at h
   ·cases h
   ·cases h3:decide (kr b e=2)<;>rw [h3] at h
    ·cases h
    ·cases h4:vB (dE b e) 0<;>rw [h4] at h
     ·cases h
     ·exact CR k _ _ _ (vD hb) (ha.app (vF 0 (vC hb)).2.1) l h
theorem kY {b:Bs} (hb:IsB b) (e:Int) (f g:Nat→Option Nat):bg f g (fu b e)=fu b e:=by
 cases h:o7 b e with
 | ok l=>rw [(AR h).2];exact kX f g (CR _ _ _ _ hb .nil l h)
 | error s=>rw [(wY h).2.1];rfl
theorem CS {b:Bs} {e:Int} (h:gf b e=false):fu b e= []:=by
 cases hc:o7 b e with
 | ok l=>rw [(AR hc).1] at h;cases h
 | error s=>exact (wY hc).2.1
def GC (b:Bs) (e:Int):TV:= .tup [.vec 2 (fu b e) .none, .val (.int .i64 (bif gf b e then 0 else iX b e)), .val (.bool (gf b e))]
theorem MU {b:Bs} (hb:IsB b) (a e:Int):VCx Tryz.prog ae 0 lO [.ptr 0 0] ⟨[aE b a e], []⟩ fun x T' =>x=GC b e∧∃bz az ez,T' =⟨[aE bz az ez], []⟩:=by
 refine VCx.toLe (Q:=fun T' =>∃bz az ez,T' =⟨[aE bz az ez], []⟩) (VCx.keepQ 1 0 (Nat.le_refl _) (Nat.le_refl _) (ai ac aa an (JT hb a e) (Pu b (fu b e) a e (iX b e) (gf b e) _) ?_))
 refine ⟨rfl,⟨rfl,rfl,rfl,⟨rfl,trivial⟩,rfl,rfl,rfl⟩,fun bz Lz bY az ez ay ey=> ?_⟩
 cases h:gf b e
 ·refine ⟨?_,_,az,ez,rfl⟩
  unfold GC
  rw [CS h,h]
  exact TVle.tup ⟨TVle.nil 2,TVle.refl _,TVle.refl _,trivial⟩
 ·refine ⟨TVle.of_eq ?_,_,az,ez,rfl⟩
  unfold GC
  rw [h]
  simp only [TV.ren,ar,kY hb e,Tok.ren,cond_true]
  rfl
theorem PC:∀ro ys T K,KT ro ys T K→VCx Tryz.prog ae ro lO ys T K:=by
 intro ro ys T K hw
 unfold KT at hw
 split at hw
 ·rename_i k
  split at hw
  ·rename_i b a e ho
   obtain ⟨⟨hro,hb⟩,hk⟩:=hw
   refine VCx.at1 (Q:=fun x o' l' =>x=GC b e∧(∃bz az ez,o' =aE bz az ez)∧l' = []) aq (Nat.le_of_ble_eq_true hro) ho rfl (bC hb a e _ _) (ys1:= [.ptr 0 0]) (by simp [ar,TV.ren,bb]) ((MU hb a e).mono fun x T' ⟨h1,bz,az,ez,h2⟩=>⟨_,_,h2,h1,⟨bz,az,ez,rfl⟩,rfl⟩) ?_
   rintro x o' l' ⟨rfl,⟨bz,az,ez,rfl⟩,rfl⟩
   have hk2:=hk (bg (bf T.objs.length [k]) (bf T.tails.length []) bz) az ez
   have e2:=kY hb e (bf T.objs.length [k]) (bf T.tails.length [])
   unfold GC
   cases h:gf b e<;>rw [h] at hk2
   ·rw [CS h]
    simp only [List.map_nil,List.append_nil,TV.ren,ar,cond_false]
    exact hk2
   ·simp only [List.map_nil,List.append_nil,TV.ren,ar,cond_true,e2,Tok.ren]
    exact hk2
  ·exact hw.elim
 ·exact hw.elim
def dO (s:Int) (d:Bs):TV:= .tup [.agg [.val (.int .i64 0), .val (.int .i64 0), .val (.int .u32 0), .vec 2 [] .none], .agg [.val (.int .i64 2), .val (.int .i64 s), .vec 1 d .none]]
def rB (n h i:Int) (l:Bs):TV:= .tup [.agg [.val (.int .i64 n), .val (.int .i64 h), .val (.int .u32 i), .vec 2 l .none], .agg [.val (.int .i64 0), .val (.int .i64 0), .vec 1 [] .none]]
def fR (n h i k:Int) (b:Bs) (e pas:Int):TV:=
 if n=0 then dO 2 [] else if pas≥1∧¬n=pas then dO 2 [] else if ¬(h=0∨(h≥3∧h≤65535)) then dO 6 [] else if i=0 then dO 3 []
 else if ¬k=bp b e then dO 0 [] else bif gf b e then rB n h i (fu b e) else dO (iX b e) []
def zb (b:Bs) (e pas:Int):TV:=
 fR (aL 2 b e) (aL 2 (aA 2 b e) (aB 2 b e)) (aL 4 (aA 2 (aA 2 b e) (aB 2 b e)) (aB 2 (aA 2 b e) (aB 2 b e)))
  (aL 1 (aA 4 (aA 2 (aA 2 b e) (aB 2 b e)) (aB 2 (aA 2 b e) (aB 2 b e))) (aB 4 (aA 2 (aA 2 b e) (aB 2 b e)) (aB 2 (aA 2 b e) (aB 2 b e))))
  (aA 1 (aA 4 (aA 2 (aA 2 b e) (aB 2 b e)) (aB 2 (aA 2 b e) (aB 2 b e))) (aB 4 (aA 2 (aA 2 b e) (aB 2 b e)) (aB 2 (aA 2 b e) (aB 2 b e))))
  (aB 1 (aA 4 (aA 2 (aA 2 b e) (aB 2 b e)) (aB 2 (aA 2 b e) (aB 2 b e))) (aB 4 (aA 2 (aA 2 b e) (aB 2 b e)) (aB 2 (aA 2 b e) (aB 2 b e)))) pas
def kF (b:Bs) (pas:Int):TV:=if b.length<10 then dO 0 [] else if ¬aL 1 b 0=4 then dO 1 [bT 0,bT 4] else zb (aA 1 b 0) (aB 1 b 0) pas
theorem cQ (s:Int):TVle (.tup [.agg [.val (.int .i64 0), .val (.int .i64 0), .val (.int .u32 0), .val (.slice none 0 0)], .agg [.val (.int .i64 2), .val (.int .i64 s), .val (.slice none 0 0)]]) (dO s []):=
 .tup ⟨.agg ⟨.refl _, .refl _, .refl _, .nil 2,trivial⟩, .agg ⟨.refl _, .refl _, .nil 1,trivial⟩,trivial⟩
theorem JU (tok:Tok):TVle (.tup [.agg [.val (.int .i64 0), .val (.int .i64 0), .val (.int .u32 0), .val (.slice none 0 0)], .agg [.val (.int .i64 2), .val (.int .i64 1), .vec 1 [bT 0,bT 4] tok]]) (dO 1 [bT 0,bT 4]):=
 .tup ⟨.agg ⟨.refl _, .refl _, .refl _, .nil 2,trivial⟩, .agg ⟨.refl _, .refl _, .vec 1 _ _,trivial⟩,trivial⟩
theorem sM (n h i:Int) (l:Bs) (tok:Tok):TVle (.tup [.agg [.val (.int .i64 n), .val (.int .i64 h), .val (.int .u32 i), .vec 2 l tok], .agg [.val (.int .i64 0), .val (.int .i64 0), .val (.slice none 0 0)]]) (rB n h i l):=
 .tup ⟨.agg ⟨.refl _, .refl _, .refl _, .vec 2 _ _,trivial⟩, .agg ⟨.refl _, .refl _, .nil 1,trivial⟩,trivial⟩
theorem dP {q:IntKind} {x y:Int} (h:av BinOp.eql (aP (.int q x) (.int q y))=true):x=y:=by rw [ec] at h;exact of_decide_eq_true h
theorem di {q:IntKind} {x y:Int} (h:av BinOp.eql (aP (.int q x) (.int q y))=false):¬x=y:=by rw [ec] at h;exact of_decide_eq_false h
theorem eM {q:IntKind} {x y:Int} (h:av BinOp.neq (aP (.int q x) (.int q y))=true):¬x=y:=by rw [dy] at h;exact of_decide_eq_false (by simpa using h)
theorem eO {q:IntKind} {x y:Int} (h:av BinOp.neq (aP (.int q x) (.int q y))=false):x=y:=by rw [dy] at h;exact of_decide_eq_true (by simpa using h)
section
variable {n h i k:Int} {b:Bs} {e pas:Int}
theorem SP (h1:n=0):fR n h i k b e pas=dO 2 []:=by unfold fR;rw [if_pos h1]
theorem SQ (h1:¬n=0) (h2:pas≥1) (h3:¬n=pas):fR n h i k b e pas=dO 2 []:=by unfold fR;rw [if_neg h1,if_pos ⟨h2,h3⟩]
theorem zc (h1:¬n=0) (h2:¬(pas≥1∧¬n=pas)) (h3:¬(h=0∨(h≥3∧h≤65535))):fR n h i k b e pas=dO 6 []:=by unfold fR;rw [if_neg h1,if_neg h2,if_pos h3]
theorem zd (h1:¬n=0) (h2:¬(pas≥1∧¬n=pas)) (h3:h=0∨(h≥3∧h≤65535)) (h4:i=0):fR n h i k b e pas=dO 3 []:=by unfold fR;rw [if_neg h1,if_neg h2,if_neg (fun c=>c h3),if_pos h4]
theorem ze (h1:¬n=0) (h2:¬(pas≥1∧¬n=pas)) (h3:h=0∨(h≥3∧h≤65535)) (h4:¬i=0) (h5:¬k=bp b e):fR n h i k b e pas=dO 0 []:=by unfold fR;rw [if_neg h1,if_neg h2,if_neg (fun c=>c h3),if_neg h4,if_pos h5]
theorem zf (h1:¬n=0) (h2:¬(pas≥1∧¬n=pas)) (h3:h=0∨(h≥3∧h≤65535)) (h4:¬i=0) (h5:k=bp b e):fR n h i k b e pas=bif gf b e then rB n h i (fu b e) else dO (iX b e) []:=by unfold fR;rw [if_neg h1,if_neg h2,if_neg (fun c=>c h3),if_neg h4,if_neg (fun c=>c h5)]
end
theorem UF:aZ Tryz.prog ae (aC [(lM,gD),(gU,kE .i64 1),(lr,kE .i64 2),(y9,kE .u32 4),(jA,lS),(lO,KT)]):=aJ fun p hp=>by
 rcases List.mem_cons.1 hp with rfl | hp;exact mE
 rcases List.mem_cons.1 hp with rfl | hp;exact fun ro ys T K h=>oZ _ _ _ _ (lE h)
 rcases List.mem_cons.1 hp with rfl | hp;exact fun ro ys T K h=>sL _ _ _ _ (lE h)
 rcases List.mem_cons.1 hp with rfl | hp;exact fun ro ys T K h=>Mt _ _ _ _ (lE h)
 rcases List.mem_cons.1 hp with rfl | hp;exact nc
 obtain rfl:=List.mem_singleton.1 hp;exact PC
set_option maxHeartbeats 1000000 in
theorem PD {b:Bs} (hb:IsB b) (pas:Int):VCx Tryz.prog ae 0 KR [.vec 1 b .none, .val (.int .i64 pas)] ⟨[], []⟩ fun x T' =>x=kF b pas∧T' =⟨[], []⟩:=by
  refine VCx.toLe (Q:=fun T' =>T' =⟨[], []⟩) (VCx.keepQ 0 0 (Nat.le_refl _) (Nat.le_refl _) (ai ac aa UF ah (SO b pas _) ?_))
  by_cases h10:b.length<10
  · refine aQ (decide_eq_true (by omega)) ⟨?_,rfl⟩
    unfold kF;rw [if_pos h10];exact cQ 0
  refine aM (decide_eq_false (by omega)) ⟨hb,⟨rfl,hb⟩, ?_⟩
  intro z bz az ez hq
  have hbz:IsB bz:=by rw [hq.2.1];exact aF hb
  refine am (fun h=> ?_) (fun h=> ?_)
  · refine ⟨?_,rfl⟩
    have h4:=eM h;rw [hq.1] at h4
    unfold kF;rw [if_neg h10,if_pos h4];exact JU _
  have h4:=eO h;rw [hq.1] at h4
  have hX:kF b pas=zb bz ez pas:=by unfold kF;rw [if_neg h10,if_neg (fun c=>c h4),hq.2.1,hq.2.2];rfl
  refine ⟨⟨rfl,hbz⟩, ?_⟩
  intro n b2 a2 e2 hq2
  have hb2:IsB b2:=by rw [hq2.2.1];exact aF hbz
  refine ⟨⟨rfl,hb2⟩, ?_⟩
  intro hh b3 a3 e3 hq3
  have hb3:IsB b3:=by rw [hq3.2.1];exact aF hb2
  refine ⟨⟨rfl,hb3⟩, ?_⟩
  intro i b4 a4 e4 hq4
  have hb4:IsB b4:=by rw [hq4.2.1];exact aF hb3
  refine ⟨⟨rfl,hb4⟩, ?_⟩
  intro k b5 a5 e5 hq5
  have hb5:IsB b5:=by rw [hq5.2.1];exact aF hb4
  have hM:kF b pas=fR n hh i k b5 e5 pas:=by
    rw [hX]
    obtain ⟨rfl,rfl,rfl⟩:=hq2
    obtain ⟨rfl,rfl,rfl⟩:=hq3
    obtain ⟨rfl,rfl,rfl⟩:=hq4
    obtain ⟨rfl,rfl,rfl⟩:=hq5
    rfl
  clear hX hq hq2 hq3 hq4 hq5
  rw [hM]
  refine am (fun c1=> ?_) (fun c1=> ?_)
  · rw [SP (dP c1)];exact ⟨cQ 2,rfl⟩
  have d1:=di c1
  refine am (fun c2=> ?_) (fun c2=> ?_)
  · have d2:=of_decide_eq_true c2
    refine am (fun c3=> ?_) (fun c3=> ?_)
    · rw [SQ d1 d2 (eM c3)];exact ⟨cQ 2,rfl⟩
    · have d3:¬(pas≥1∧¬n=pas):=fun c=>c.2 (eO c3)
      refine am (fun c4=> ?_) (fun c4=> ?_)
      · have d4:hh=0∨(hh≥3∧hh≤65535):= .inl (dP c4)
        refine am (fun c5=> ?_) (fun c5=> ?_)
        · rw [zd d1 d3 d4 (dP c5)];exact ⟨cQ 3,rfl⟩
        refine ⟨⟨rfl,hb5⟩, ?_⟩
        refine am (fun c6=> ?_) (fun c6=> ?_)
        · rw [ze d1 d3 d4 (di c5) (eM c6)];exact ⟨cQ 0,rfl⟩
        refine ⟨⟨rfl,hb5⟩,fun by6 ay6 ey6=> ?_⟩
        rw [zf d1 d3 d4 (di c5) (eO c6)]
        cases gf b5 e5
        · exact ⟨cQ _,rfl⟩
        · refine ⟨?_,rfl⟩
          simp only [TV.ren,ar,kY hb5 e5,cond_true]
          exact sM _ _ _ _ _
      · have d0:=di c4
        refine am (fun c4a=> ?_) (fun c4a=> ?_)
        · have d4a:=of_decide_eq_true c4a
          refine am (fun c4b=> ?_) (fun c4b=> ?_)
          · have d4:¬(hh=0∨(hh≥3∧hh≤65535)):=by
              have:=of_decide_eq_false (show decide (hh≤65535)=false by cases h:decide (hh≤65535)<;>simp_all)
              omega
            rw [zc d1 d3 d4];exact ⟨cQ 6,rfl⟩
          · have d4:hh=0∨(hh≥3∧hh≤65535):= .inr ⟨d4a,of_decide_eq_true (by simpa using c4b)⟩
            refine am (fun c5=> ?_) (fun c5=> ?_)
            · rw [zd d1 d3 d4 (dP c5)];exact ⟨cQ 3,rfl⟩
            refine ⟨⟨rfl,hb5⟩, ?_⟩
            refine am (fun c6=> ?_) (fun c6=> ?_)
            · rw [ze d1 d3 d4 (di c5) (eM c6)];exact ⟨cQ 0,rfl⟩
            refine ⟨⟨rfl,hb5⟩,fun by6 ay6 ey6=> ?_⟩
            rw [zf d1 d3 d4 (di c5) (eO c6)]
            cases gf b5 e5
            · exact ⟨cQ _,rfl⟩
            · refine ⟨?_,rfl⟩
              simp only [TV.ren,ar,kY hb5 e5,cond_true]
              exact sM _ _ _ _ _
        · have d4a:=of_decide_eq_false c4a
          have d4:¬(hh=0∨(hh≥3∧hh≤65535)):=by omega
          rw [zc d1 d3 d4];exact ⟨cQ 6,rfl⟩
  · have d3:¬(pas≥1∧¬n=pas):=fun c=>of_decide_eq_false c2 c.1
    refine am (fun c4=> ?_) (fun c4=> ?_)
    · have d4:hh=0∨(hh≥3∧hh≤65535):= .inl (dP c4)
      refine am (fun c5=> ?_) (fun c5=> ?_)
      · rw [zd d1 d3 d4 (dP c5)];exact ⟨cQ 3,rfl⟩
      refine ⟨⟨rfl,hb5⟩, ?_⟩
      refine am (fun c6=> ?_) (fun c6=> ?_)
      · rw [ze d1 d3 d4 (di c5) (eM c6)];exact ⟨cQ 0,rfl⟩
      refine ⟨⟨rfl,hb5⟩,fun by6 ay6 ey6=> ?_⟩
      rw [zf d1 d3 d4 (di c5) (eO c6)]
      cases gf b5 e5
      · exact ⟨cQ _,rfl⟩
      · refine ⟨?_,rfl⟩
        simp only [TV.ren,ar,kY hb5 e5,cond_true]
        exact sM _ _ _ _ _
    · have d0:=di c4
      refine am (fun c4a=> ?_) (fun c4a=> ?_)
      · have d4a:=of_decide_eq_true c4a
        refine am (fun c4b=> ?_) (fun c4b=> ?_)
        · have d4:¬(hh=0∨(hh≥3∧hh≤65535)):=by
            have:=of_decide_eq_false (show decide (hh≤65535)=false by cases h:decide (hh≤65535)<;>simp_all)
            omega
          rw [zc d1 d3 d4];exact ⟨cQ 6,rfl⟩
        · have d4:hh=0∨(hh≥3∧hh≤65535):= .inr ⟨d4a,of_decide_eq_true (by simpa using c4b)⟩
          refine am (fun c5=> ?_) (fun c5=> ?_)
          · rw [zd d1 d3 d4 (dP c5)];exact ⟨cQ 3,rfl⟩
          refine ⟨⟨rfl,hb5⟩, ?_⟩
          refine am (fun c6=> ?_) (fun c6=> ?_)
          · rw [ze d1 d3 d4 (di c5) (eM c6)];exact ⟨cQ 0,rfl⟩
          refine ⟨⟨rfl,hb5⟩,fun by6 ay6 ey6=> ?_⟩
          rw [zf d1 d3 d4 (di c5) (eO c6)]
          cases gf b5 e5
          · exact ⟨cQ _,rfl⟩
          · refine ⟨?_,rfl⟩
            simp only [TV.ren,ar,kY hb5 e5,cond_true]
            exact sM _ _ _ _ _
      · have d4a:=of_decide_eq_false c4a
        have d4:¬(hh=0∨(hh≥3∧hh≤65535)):=by omega
        rw [zc d1 d3 d4];exact ⟨cQ 6,rfl⟩
end
section
open Go.RowKit

end
section
open Go.RowKit

end
section
open Go.RowKit

def o1 (B:Bs):Bs:=aA (1:Nat) B 0
def g1 (B:Bs):Int:=aB (1:Nat) B 0
def m1 (B:Bs):Int:=Gg (1:Nat) B 0 0
def o2 (B:Bs):Bs:=aA (2:Nat) (o1 B) (g1 B)
def g2 (B:Bs):Int:=aB (2:Nat) (o1 B) (g1 B)
def m2 (B:Bs):Int:=Gg (2:Nat) B (m1 B) (g1 B)
def o3 (B:Bs):Bs:=aA (2:Nat) (o2 B) (g2 B)
def g3 (B:Bs):Int:=aB (2:Nat) (o2 B) (g2 B)
def m3 (B:Bs):Int:=Gg (2:Nat) B (m2 B) (g2 B)
def o4 (B:Bs):Bs:=aA (4:Nat) (o3 B) (g3 B)
def g4 (B:Bs):Int:=aB (4:Nat) (o3 B) (g3 B)
def m4 (B:Bs):Int:=Gg (4:Nat) B (m3 B) (g3 B)
def g5 (B:Bs):Int:=aB (1:Nat) (o4 B) (g4 B)
def m5 (B:Bs):Int:=Gg (1:Nat) B (m4 B) (g4 B)
end
section
open Go.RowKit

abbrev rC:=117
def z7:VO:= .cells [.val (.int .i64 0), .val (.int .i64 0), .val (.slice none 0 0)]
def f7 (s:Int):VO:= .cells [.val (.int .i64 3), .val (.int .i64 s), .val (.slice none 0 0)]
abbrev CT:=List (Nat × Nat × Bool)
def yh:List Nat:= [2,3,4,5]
def o8 (L:Bs):List TV:= [.val (.slice none 0 0), .ptr 0 0, .ptr 1 0, .vec 3 L (.tail 0 L.length)]
def KW (N:Nat) (O:Bs→Int→Int→VO) (L:Bs) (ok:Bool) (K:KX):Prop:=bif ok then (∀(bz:Bs) (az ez:Int),K .normal (aR N yh (o8 L)) ⟨[z7,O bz az ez], [(L.length,3,true)]⟩ []) else ∀(rest:List VO) (tlz:CT) (Lz:Bs),K .ret (aR N yh (o8 Lz)) ⟨f7 1::rest,tlz⟩ []
def T6 (N:Nat) (O:Bs→Int→Int→VO) (b L:Bs) (ok:Bool) (c0:Code):Nat→Option (b6 × Code):=cJ [(0,eU N yh [(5,3)] (o8 []) ⟨[z7,O b 0 0], [(0,3,true)]⟩ (KW N O L ok),c0)]
theorem SR (b L:Bs) (ok:Bool) (Q:TV→VT→Prop):au Tryz.prog ae (aC [(lM,gD)]) aT 300 (T6 41 aE b L ok (aH Tryz.prog rC 0)) 0 rC [.vec 1 b .none] aG Q=
 (IsB (b)∧
 ((aH Tryz.prog rC (0:Nat)=aH Tryz.prog rC (0:Nat))∧
 (((@Eq (Option Nat) .none .none)∧
 ((@Eq (Nat) 0 0)∧
 ((@Eq (List Nat) [] [])∧
 (((@Eq (Option TV) (.some aO) (.some aO))∧
 True)∧
 ((@Eq (VT) ⟨[cg,(.cells [ax,(aI b),aD,aD])], [(0,(3,true))]⟩ ⟨[cg,(.cells [ax,(aI b),aD,aD])], [(0,(3,true))]⟩)∧
 ((@Eq (Bool) true true)∧
 (@Eq (List TV) [aO,eg,(.ptr 1 0),(.vec 3 [] (.tail 0 0))] [aO,eg,(.ptr 1 0),(.vec 3 [] (.tail 0 0))])))))))∧
 (bif ok
 then (∀bz:Bs,(∀az:Int,(∀ez:Int,Q (.tup [(wR L (List.length L)),kj]) ⟨[cg,(.cells [ax,(aI bz),(ak az),(ak ez)])], [((List.length L),(3,true))]⟩)))
 else (∀rest:List VO,(∀tlz:CT,(∀Lz:Bs,Q (.tup [aO,KJ]) ⟨[(.cells [(.val (.int .i64 3)),(.val (.int .i64 1)),(.val (.slice .none 0 0))])]++rest,tlz⟩))))))):=by kernel_rfl
theorem PE (b L:Bs) (p:List TV) (a:Int) (Q:Exit→List TV→VT→List Nat→Nat→Prop):vx Tryz.prog ae (aC [(jA,lS),(gU,kE .i64 1),(lr,kE .i64 2),(jd,ye),(iu,kC)]) (bc [(999999, .dead,none),(38, .vec 3 (L++ [p]) (.tail 0 (L.length+1)),some fun T=>{T with tails:= [(L.length+1,3,true)]})]) 300 aK none 0 (cI Tryz.prog rC 0) (aR 41 yh (o8 L)) ⟨[z7,aE b a 0], [(L.length,3,true)]⟩ [] (dm yh Q)=
 (((@Eq (Bool) true true)∧
 IsB (b))∧
 (bif decide (bp b (0:Int)>(0:Int))
 then (((@Eq (Bool) true true)∧
 IsB (b))∧
 (∀z:Int,(∀bz:Bs,(∀az:Int,(∀ez:Int,(((@Eq (Int) (z) (aL (1:Nat) b (0:Int)))∧
 ((@Eq (Bs) (bz) (aA (↑(1:Nat):Int) b (0:Int)))∧
 (@Eq (Int) (ez) (aB (↑(1:Nat):Int) b (0:Int)))))→(((@Eq (Bool) true true)∧
 IsB (bz))∧
 (∀z_10:Int,(∀bz_11:Bs,(∀az_12:Int,(∀ez_13:Int,(((@Eq (Int) (z_10) (aL (1:Nat) bz ez))∧
 ((@Eq (Bs) (bz_11) (aA (↑(1:Nat):Int) bz ez))∧
 (@Eq (Int) (ez_13) (aB (↑(1:Nat):Int) bz ez))))→(bif av BinOp.neq (k6 (IntKind.wrap IntKind.i64 (↑(BitVec.toNat (BitVec.ofInt (IntKind.bits IntKind.i64) z&&&BitVec.ofInt (IntKind.bits IntKind.i64) (16:Int))):Int)) (0:Int))
 then (((@Eq (Bool) true true)∧
 IsB (bz_11))∧
 (∀z_15:Int,(∀bz_16:Bs,(∀az_17:Int,(∀ez_18:Int,(((@Eq (Int) (z_15) (aL (2:Nat) bz_11 ez_13))∧
 ((@Eq (Bs) (bz_16) (aA (↑(2:Nat):Int) bz_11 ez_13))∧
 (@Eq (Int) (ez_18) (aB (↑(2:Nat):Int) bz_11 ez_13))))→(((@Eq (Bool) true true)∧
 IsB (bz_16))∧
 (∀v:Bs,(∀bz_21:Bs,(∀az_22:Int,(∀ez_23:Int,(((@Eq (Bs) (v) (bR z_15 bz_16 ez_18))∧
 ((@Eq (Bs) (bz_21) (aA z_15 bz_16 ez_18))∧
 (@Eq (Int) (ez_23) (aB z_15 bz_16 ez_18))))→(((@Eq (Bool) true true)∧
 IsB (bz_21))∧
 (bif av BinOp.neq (k6 ez_23 (0:Int))
 then Q .ret (AB L (List.length L)) ⟨[AA,(.cells [ax,(aI bz_21),(ak az_22),(ak ez_23)]),(ep z z_10 v)], [((List.length L),(3,true))]⟩ [] 41
 else (ba Tryz.prog (fun _=> .none) 0 ⟨[cg,(.cells [ax,(aI bz_21),(ak az_22),(ak ez_23)]),(ep z z_10 v)], [((List.length L),(3,true))]⟩ (.call ⟨(.builtin .append), #[(.tmp 35),(.tmp 37)], #[199,199]⟩) [(35,(wR L (List.length L))),(37,(.vec 3 [[(.val (.int .i64 (z))),(.val (.int .i64 (z_10))),(.vec 1 (v) .none)]] .full))] (wR (L++ [p]) (List.length L+(1:Nat))) ⟨[cg,(.cells [ax,(aI bz_21),(ak az_22),(ak ez_23)]),(ep z z_10 v)], [((List.length L+(1:Nat)),(3,true))]⟩∧
 Q .normal (AB (L++ [p]) (List.length L+(1:Nat))) ⟨[cg,(.cells [ax,(aI bz_21),(ak az_22),(ak ez_23)]),(ep z z_10 v)], [((List.length L+(1:Nat)),(3,true))]⟩ [] 41)))))))))))))))
 else (((@Eq (Bool) true true)∧
 IsB (bz_11))∧
 (∀z_15:Int,(∀bz_16:Bs,(∀az_17:Int,(∀ez_18:Int,(((@Eq (Int) (z_15) (aL (1:Nat) bz_11 ez_13))∧
 ((@Eq (Bs) (bz_16) (aA (↑(1:Nat):Int) bz_11 ez_13))∧
 (@Eq (Int) (ez_18) (aB (↑(1:Nat):Int) bz_11 ez_13))))→(((@Eq (Bool) true true)∧
 IsB (bz_16))∧
 (∀v:Bs,(∀bz_21:Bs,(∀az_22:Int,(∀ez_23:Int,(((@Eq (Bs) (v) (bR z_15 bz_16 ez_18))∧
 ((@Eq (Bs) (bz_21) (aA z_15 bz_16 ez_18))∧
 (@Eq (Int) (ez_23) (aB z_15 bz_16 ez_18))))→(((@Eq (Bool) true true)∧
 IsB (bz_21))∧
 (bif av BinOp.neq (k6 ez_23 (0:Int))
 then Q .ret (AB L (List.length L)) ⟨[AA,(.cells [ax,(aI bz_21),(ak az_22),(ak ez_23)]),(ep z z_10 v)], [((List.length L),(3,true))]⟩ [] 41
 else (ba Tryz.prog (fun _=> .none) 0 ⟨[cg,(.cells [ax,(aI bz_21),(ak az_22),(ak ez_23)]),(ep z z_10 v)], [((List.length L),(3,true))]⟩ (.call ⟨(.builtin .append), #[(.tmp 35),(.tmp 37)], #[199,199]⟩) [(35,(wR L (List.length L))),(37,(.vec 3 [[(.val (.int .i64 (z))),(.val (.int .i64 (z_10))),(.vec 1 (v) .none)]] .full))] (wR (L++ [p]) (List.length L+(1:Nat))) ⟨[cg,(.cells [ax,(aI bz_21),(ak az_22),(ak ez_23)]),(ep z z_10 v)], [((List.length L+(1:Nat)),(3,true))]⟩∧
 Q .normal (AB (L++ [p]) (List.length L+(1:Nat))) ⟨[cg,(.cells [ax,(aI bz_21),(ak az_22),(ak ez_23)]),(ep z z_10 v)], [((List.length L+(1:Nat)),(3,true))]⟩ [] 41))))))))))))))))))))))))))))
 else Q (.exit 0) (AB L (List.length L)) ⟨[cg,(.cells [ax,(aI b),(ak a),aD])], [((List.length L),(3,true))]⟩ [] 41)):=by kernel_rfl
end

end Go.Proofs.YtogbdjlelkepcaaGreatDoor