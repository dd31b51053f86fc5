/-Part 6 of the proof of packMany_holds:Vtm,Vta,PkC ... No condition. -/
import Derived.Deep.Slices
import Derived.LaidHandle
import Derived.ProofKit
import Derived.OpenShut
import Derived.Lib.SmallJoins
import Derived.Test.YtnfplefcghadfaaPq1
import Derived.Test.YtnfplefcghadfaaPq2
import Derived.Test.YtnfplefcghadfaaPq3
import Derived.Test.YtnfplefcghadfaaPq4
import Derived.Test.YtnfplefcghadfaaPq5
set_option maxRecDepth 100000
namespace Go.Proofs.Ytnfplefcghadfaa
section
open Go.RowKit

def FreeM (m:Nat) (x:TV):Prop:=∀g g' w u,(∀id b,g.obj id=some b→g'.obj id=some b)→(∀b o,g.st b o→b<m→g'.st b o)→VR g w x u→VR g' w x u
theorem FreeT.toM {m:Nat} {x:TV} (h:FreeT x):FreeM m x:=fun g g' w u ho _ hv=>h g w g' w u ho hv
theorem FreeM.arg {m sz:Nat} {es:List (List TV)} (h:∀c∈es.flatten,FreeT c):FreeM m (.vec sz es (.arg m)):=fun g g' w u ho hs hv=>by
 cases hv with
 | nil hk=>exact .nil trivial
 | odd a hk=>exact .odd a hk
 | @vec _ _ _ b o c us hn hc hz ht hl h1 hst hw hvs=>
  refine .vec hn hc hz ht hl h1 (fun j hj=>hs _ _ (hst j hj) ?_) hw fun j x u hx hu=>h x (List.mem_of_getElem? hx) g w g' w u ho (hvs j x u hx hu)
  have ht' :es.length=0∨(b<m∧m≤w.heap.size):=ht
  rcases ht' with h0 | h0
  ·have:es= []:=List.eq_nil_of_length_eq_zero h0
   subst this
   simp at hj
  ·exact h0.1
theorem ym {m:Nat} {g g' :Gh} {w:World} {cs:List TV} {us:List Value} (hc:∀c∈cs,FreeM m c) (ho:∀id b,g.obj id=some b→g'.obj id=some b) (hs:∀b o,g.st b o→b<m→g'.st b o) (h:VRs g w cs us):VRs g' w cs us:=
 ⟨h.1,fun j x u hx hu=>hc x (List.mem_of_getElem? hx) g g' w u ho hs (h.2 j x u hx hu)⟩
theorem Cu {m:Nat} {g0 g:Gh} {w0 w:World} {T0 T:VT} (e0:Evo g0 w0 g w) (r0:RW g0 T0 w0) (r:RW g T w) {k e size:Nat} {es:List (List TV)} {u:Value} (hk:T0.tails.length≤k) (hT:T.tails[k]?=some (e,size,true)) (hn:es.length=e) (hpos:0<e)
    (hs:VR g w (.vec size es (.tail k e)) u) (hm:m≤w0.heap.size) (hes:∀c∈es.flatten,FreeM m c) (hob:∀o∈T.objs,v6 o) (hol:T0.objs.length≤T.objs.length):
    ∃g2,Evo g0 w0 g2 w∧RW g2 ⟨T.objs++ [.row es.flatten],T.tails.set k (e+1,size,false)⟩ w∧VR g2 w (.row size T.objs.length 0 es.length) u:=by
  obtain ⟨x,hxt,hxe,hxz,hxx⟩:=r.tl k _ hT
  simp only at hxe hxz
  obtain ⟨hxz,hxb⟩:=hxz
  have hes0:0<es.length:=by omega
  obtain ⟨b,o,c,us,rfl,a1,a2,a3,a4,a5,a6,a7,a8⟩:∃b o c us,u= .slice (some ⟨b,o,none⟩) es.length c∧es.length≤c∧c≤maxLen∧(∀e∈es,e.length=size)∧TokOk g w (.tail k e) size es.length b o c∧VRs g w es.flatten us∧(∀j,j<es.flatten.length→g.st b (o+j))∧(∀(j:Nat) v,us[j]?=some v→w.cell? ⟨b,o+j,none⟩=some v)∧∀u∈us,u.oneCell' =true:=by
    rcases hs.vec_inv with ⟨_,he,_⟩ | h | ⟨_,_,he,_⟩
    · rw [he] at hes0;simp at hes0
    · exact h
    · rw [he] at hes0;simp at hes0
  obtain ⟨y,q1,q2,q3,_,q5⟩:=a4
  rw [hxt] at q1;injection q1 with q1;subst q1
  obtain ⟨_,q6⟩:=q5 hxe hxb
  obtain ⟨hxo,p1,p2,p3⟩:=q6 (by omega) (by omega)
  subst p1 p2
  obtain ⟨⟨cur,hblk,hcur⟩,hff,hfl,hlo,hnfr⟩:=r.own k x hxt hxo (by omega)
  have hw0:w0.heap.size≤x.b:=Nat.le_trans (e0.tnew k x (r0.tout k hk) hxt) hlo
  obtain ⟨g2,hg2⟩:∃g2:Gh,g2={g with obj:=fun i=>if i=T.objs.length then some x.b else g.obj i,tail:=fun i=>if i=k then some {x with lim:=x.f,own:=false,born:=false,e:=e+1} else g.tail i,st:=fun b o=>g.st b o∧b≠x.b}:=⟨_,rfl⟩
  have gobj:∀id,id≠T.objs.length→g2.obj id=g.obj id:=fun id h=>by rw [hg2];simp [h]
  have gnew:g2.obj T.objs.length=some x.b:=by rw [hg2];simp
  have oeq:∀id b,g.obj id=some b→g2.obj id=some b:=fun id b h=>by
    rw [gobj id]; · exact h
    · rintro rfl;rw [r.out _ (Nat.le_refl _)] at h;cases h
  have gfr:g2.fr=g.fr:=by rw [hg2]
  have gst:∀b o,g2.st b o→g.st b o∧b≠x.b:=fun b o h=>by rw [hg2] at h;exact h
  have gtk:g2.tail k=some {x with lim:=x.f,own:=false,born:=false,e:=e+1}:=by rw [hg2];simp
  have gtn:∀j,j≠k→g2.tail j=g.tail j:=fun j hj=>by rw [hg2];simp [hj]
  have hst0:∀b o,g0.st b o→b≠x.b:=fun b o h hb=>by
    obtain ⟨u,hu⟩:=Option.isSome_iff_exists.1 (r0.st b o h)
    have:=dE hu
    simp at this;omega
  have ev:Evo g0 w0 g2 w:=by
    refine ⟨e0.os,e0.tape,e0.output,e0.size,fun id b hb=>oeq id b (e0.obj id b hb),fun b o h=>⟨?_,(e0.st b o h).2⟩,by rw [gfr];exact e0.fr,e0.frb,fun b o hb h=>e0.frs b o hb (gst b o h).1,fun j y hy=> ?_,fun j y h1 h2=> ?_,e0.csz⟩
    · rw [hg2];exact ⟨(e0.st b o h).1,hst0 b o h⟩
    · have hj:j≠k:=by rintro rfl;rw [r0.tout j hk] at hy;cases hy
      rw [gtn j hj];exact e0.tail j y hy
    · by_cases hj:j=k
      · subst hj;rw [gtk] at h2;injection h2 with h2;subst h2;exact e0.tnew j x h1 hxt
      · rw [gtn j hj] at h2;exact e0.tnew j y h1 h2
  have hobjne:∀(id:Nat) oo b,T.objs[id]?=some oo→oo.live=true→g.obj id=some b→b≠x.b:=fun id oo b h1 h2 h3 hb=>r.tobj id oo b k x h1 h2 h3 hxt (.inr ⟨hxo,by omega,hb.symm⟩)
  have hasle:∀b,({x with lim:=x.f,own:=false,born:=false,e:=e+1}:Tl).has b→False:=fun b h=>by
    rcases h with ⟨o,_,h1,h2⟩ | ⟨h,_⟩
    · simp only at h1 h2;omega
    · cases h
  have hob2:∀(id:Nat) oo,(T.objs++ [.row es.flatten])[id]?=some oo→(id<T.objs.length∧T.objs[id]?=some oo)∨(id=T.objs.length∧oo= .row es.flatten):=fun id oo h=>by
    rcases Nat.lt_trichotomy id T.objs.length with h1 | h1 | h1
    · rw [List.getElem?_append_left h1] at h;exact .inl ⟨h1,h⟩
    · subst h1;simp at h;exact .inr ⟨rfl,h.symm⟩
    · rw [List.getElem?_eq_none (by simp;omega)] at h;cases h
  have hfl3:=aY a3
  have hcl:cur.toList.length=c*size:=by rw [Array.length_toList,hcur,p3]
  have hul:us.length=es.length*size:=by rw [a5.1,hfl3]
  have hle2:es.length*size≤c*size:=Nat.mul_le_mul_right _ a1
  have htake:cur.toList.take es.flatten.length=us:=by
    rw [hfl3]
    apply List.ext_getElem?
    intro j
    rw [List.getElem?_take]
    split
    · rename_i hj
      have h9:us[j]?=some us[j]:=List.getElem?_eq_getElem (by omega)
      have h10:=a7 j us[j] h9
      rw [h9]
      simpa [World.cell?,hblk] using h10
    · rename_i hj;rw [List.getElem?_eq_none (by omega)]
  have rw2:RW g2 ⟨T.objs++ [.row es.flatten],T.tails.set k (e+1,size,false)⟩ w:=by
    refine ⟨?_, ?_, ?_, ?_, ?_, ?_, ?_, ?_, ?_, ?_, ?_, ?_⟩
    · intro id oo h hl
      rcases hob2 id oo h with ⟨h0,h1⟩ | ⟨rfl,rfl⟩
      · obtain ⟨b,h3,h4,h5,h6⟩:=r.obj id oo h1 hl
        exact ⟨b,by rw [gobj id (by omega)];exact h3,BF oeq (hob oo (List.mem_of_getElem? h1)) h4,by rw [gfr];exact h5,fun o hs=>h6 o (gst b o hs).1⟩
      · refine ⟨x.b,gnew,⟨cur.toList,x.ty,by simpa using hblk,by rw [hfl3,hcl];exact hle2, ?_,fun u hu=> ?_⟩,by rw [gfr];exact hnfr,fun o hs=>(gst _ o hs).2 rfl⟩
        · rw [htake];exact ym hes oeq (fun b o hs hb=>by rw [hg2];exact ⟨hs,by omega⟩) a5
        · rw [htake] at hu;exact a8 u hu
    · intro i j oi oj b hi li hj lj b1 b2
      rcases hob2 i oi hi with ⟨h0,h1⟩ | ⟨rfl,rfl⟩
      · rw [gobj i (by omega)] at b1
        rcases hob2 j oj hj with ⟨h2,h3⟩ | ⟨rfl,rfl⟩
        · rw [gobj j (by omega)] at b2
          exact r.inj i j oi oj b h1 li h3 lj b1 b2
        · rw [gnew] at b2;injection b2 with b2;exact absurd b2.symm (hobjne i oi b h1 li b1)
      · rw [gnew] at b1;injection b1 with b1
        rcases hob2 j oj hj with ⟨h2,h3⟩ | ⟨rfl,rfl⟩
        · rw [gobj j (by omega)] at b2
          exact absurd b1.symm (hobjne j oj b h3 lj b2)
        · rfl
    · intro id hid
      simp only [List.length_append,List.length_cons,List.length_nil] at hid
      rw [gobj id (by omega)];exact r.out id (by omega)
    · intro b o h;exact r.st b o (gst b o h).1
    · intro b hb;rw [gfr] at hb;exact r.fr b hb
    · intro j p h
      simp only [List.getElem?_set] at h
      split at h
      · rename_i hj;subst hj
        split at h
        · injection h with h;subst h
          exact ⟨_,gtk,rfl,⟨hxz,rfl⟩,fun b o hin=>absurd (.inl ⟨o,hin⟩) (hasle b)⟩
        · cases h
      · rename_i hj
        obtain ⟨y,q1,q2,q3,q4⟩:=r.tl j p h
        have hj' :j≠k:=fun h=>hj h.symm
        refine ⟨y,by rw [gtn j hj'];exact q1,q2,q3,fun b o hin=> ?_⟩
        obtain ⟨s1,s2,s3,s4⟩:=q4 b o hin
        exact ⟨s1,s2,fun hs=>s3 (gst b o hs).1,by rw [gfr];exact s4⟩
    · intro j hj
      simp only [List.length_set] at hj
      have hlt:=jJ r hxt
      rw [gtn j (by omega)];exact r.tout j hj
    · intro i j y z b h1 h2 i1 i2
      by_cases hi:i=k
      · subst hi;rw [gtk] at h1;injection h1 with h1;subst h1;exact (hasle b i1).elim
      · by_cases hj:j=k
        · subst hj;rw [gtk] at h2;injection h2 with h2;subst h2;exact (hasle b i2).elim
        · rw [gtn i hi] at h1;rw [gtn j hj] at h2;exact r.tinj i j y z b h1 h2 i1 i2
    · intro i oi b j y hi li b1 hy hin
      by_cases hj:j=k
      · subst hj;rw [gtk] at hy;injection hy with hy;subst hy;exact (hasle b hin).elim
      · rw [gtn j hj] at hy
        rcases hob2 i oi hi with ⟨h0,h1⟩ | ⟨rfl,rfl⟩
        · rw [gobj i (by omega)] at b1;exact r.tobj i oi b j y h1 li b1 hy hin
        · rw [gnew] at b1;injection b1 with b1;subst b1
          exact hj (r.tinj j k y x x.b hy hxt hin (.inr ⟨hxo,by omega,rfl⟩))
    · intro j y hy d1 d2
      by_cases hj:j=k
      · subst hj;rw [gtk] at hy;injection hy with hy;subst hy;cases d1
      · rw [gtn j hj] at hy
        obtain ⟨s1,s3,s4,s5,s6⟩:=r.own j y hy d1 d2
        exact ⟨s1,s3,s4,s5,by rw [gfr];exact s6⟩
    · intro j y hy d1
      by_cases hj:j=k
      · subst hj;rw [gtk] at hy;injection hy with hy;subst hy;rcases d1 with d1 | d1<;>cases d1
      · rw [gtn j hj] at hy;exact r.own0 j y hy d1
    · intro j y hy
      by_cases hj:j=k
      · subst hj;rw [gtk] at hy;injection hy with hy;subst hy;exact r.tlo j x hxt
      · rw [gtn j hj] at hy;exact r.tlo j y hy
  refine ⟨g2,ev,rw2, ?_⟩
  have:=VR.row (g:=g2) (w:=w) (size:=size) (id:=T.objs.length) (off:=0) (n:=es.length) (c:=c) gnew (by have:=r.own k x hxt hxo (by omega);exact (Array.getElem?_eq_some_iff.1 hblk).1) a1 a2 (by rw [aL hblk,hcur,p3];simp)
  simpa using this
section
variable {P:Program} {G:ax}
theorem tQ {m:Nat} {c:Code} {n:Nat} {keys:List Nat} {ad:List (Nat × Nat)} {vs0 vs1:List TV} {T0 T1:VT} {slot k size:Nat} {es:List (List TV)} (hs:(aq n keys vs1)[slot]?=some (.vec size es (.tail k es.length))) (hT:T1.tails[k]?=some (es.length,size,true)) (hpos:0<es.length)
  (hm:∀(g:Gh) (w:World) (σ:List TV) (us:List Value) (T:VT),VRs g w σ us→pick keys (b6 ad σ T).1=vs0→m≤w.heap.size) (hes:∀c∈es.flatten,FreeM m c) (hob:∀o∈T1.objs,v6 o) (h:∀K,K .normal (aq n keys vs1) T1 []→VWx P G none 0 c (aq n keys vs0) T0 [] K):
  ∀rd ro σ T D K,uq n keys ad vs0 T0 T1 slot k size es rd ro σ T D K→VWx P G rd ro c σ T D K:=by
 rintro rd ro σ T D K ⟨⟨h1,h2,h3,h4,h5,h6,h7,hk⟩,hK⟩
 have hl:=bL (n:=n) (keys:=keys) (ad:=ad) (vs0:=vs0) (T0:=T0) (R:=fun K=>K .normal (aq n keys vs1) T1 []) h rd ro σ T D (fun e σ' T' D' =>e= .normal∧σ' =aq n keys vs1∧T' =T1∧D' = []) ⟨⟨h1,h2,h3,h4,h5,h6,h7⟩,rfl,rfl,rfl,rfl⟩
 subst h1 h2 h3
 have hn:=Nat.eq_of_beq_eq_true h6
 intro r g w a rw0 hG hσ hd hD hr
 refine wpIn_mono (hl r g w a rw0 hG hσ hd hD hr) ?_
 rintro e a' w' ⟨g',σ',T',D',⟨rfl,rfl,rfl,rfl⟩,e',r',hσ',hd',_,fx⟩
 obtain ⟨u,hu,hv⟩:=hσ'.at hs
 obtain ⟨g2,ev,rw2,v2⟩:=Cu e' rw0 r' (Nat.le_of_ble_eq_true hk) hT rfl hpos hv (hm _ _ _ _ _ hσ h7) hes hob fx.len
 refine ⟨g2,_,_, [],hK,ev,rw2,v7 ?_ hu v2,hd',(fun id hid=>by cases hid),⟨?_,fun i hi=>absurd hi (Nat.not_lt_zero i),fun i o b hi=>absurd hi (Nat.not_lt_zero i)⟩⟩
 ·rw [hσ'.1];simp [aq,gB,eV]
 ·have:=fx.len
  simp only [List.length_append,List.length_cons,List.length_nil];omega
end
end
section
open Go.RowKit

mutual
def nT (m:Nat):TV→TV
 | .vec 0 es tok=> .vec 0 es tok
 | .vec (sz+1) es _=> .vec (sz+1) (gD m es) (.arg m)
 | .agg cs=> .agg (kU m cs)
 | x=>x
def kU (m:Nat):List TV→List TV
 | []=> []
 | x::l=>nT m x::kU m l
def gD (m:Nat):List (List TV)→List (List TV)
 | []=> []
 | x::l=>kU m x::gD m l
end
theorem iO (m:Nat):∀l:List TV,kU m l=l.map (nT m)
 | []=>rfl
 | x::l=>by rw [kU,iO m l];rfl
theorem fD (m:Nat):∀l:List (List TV),gD m l=l.map fun c=>c.map (nT m)
 | []=>rfl
 | x::l=>by rw [gD,fD m l,iO];rfl
theorem ll (m:Nat) (l:List (List TV)):(gD m l).flatten=l.flatten.map (nT m):=by
 rw [fD,List.map_flatten]
theorem VR.toArg {g:Gh} {w:World} {x:TV} {u:Value} (h:VR g w x u):VR g w (nT w.heap.size x) u:=by
 induction h with
 | @vec size es tok b o c us hn hc hz ht hl h1 hs hw hv ih=>
  cases size with
  | zero=>exact .vec hn hc hz ht hl h1 hs hw hv
  | succ k=>
   have hle:(gD w.heap.size es).length=es.length:=by rw [fD,List.length_map]
   have hfl:(gD w.heap.size es).flatten.length=es.flatten.length:=by rw [ll,List.length_map]
   show VR g w (.vec (k+1) (gD w.heap.size es) (.arg w.heap.size)) _
   rw [←hle]
   refine .vec (by omega) hc (fun e he=> ?_) ?_ (by omega) h1 (fun j hj=>hs j (by omega)) hw (fun j x u hx hu=> ?_)
   ·rw [fD] at he
    obtain ⟨e0,he0,rfl⟩:=List.mem_map.1 he
    rw [List.length_map];exact hz e0 he0
   ·show (gD w.heap.size es).length=0∨(b<w.heap.size∧w.heap.size≤w.heap.size)
    rcases Nat.eq_zero_or_pos es.length with h0 | h0
    ·exact .inl (by omega)
    ·refine .inr ⟨?_,Nat.le_refl _⟩
     have h2:=aY hz
     have h3:0<us.length:=by rw [hl,h2];exact Nat.mul_pos h0 (Nat.succ_pos _)
     have h4:=hw 0 us[0] (List.getElem?_eq_getElem h3)
     exact dE h4
   ·rw [ll,List.getElem?_map] at hx
    cases he:es.flatten[j]? with
    | none=>rw [he] at hx;cases hx
    | some y=>
     rw [he] at hx
     injection hx with hx
     subst hx
     exact ih j y u he hu
 | @nil size tok hk=>
  cases size with
  | zero=>exact .nil hk
  | succ k=>exact .nil trivial
 | @odd size tok a hk=>
  cases size with
  | zero=>exact .odd a hk
  | succ k=>exact .odd a (.inl rfl)
 | agg hl hv ih=>
  show VR g w (.agg (kU w.heap.size _)) _
  rw [iO]
  refine .agg (by rw [List.length_map];exact hl) fun j x u hx hu=> ?_
  rw [List.getElem?_map] at hx
  rename_i cs us
  cases he:cs[j]? with
  | none=>rw [he] at hx;cases hx
  | some y=>
   rw [he] at hx
   injection hx with hx
   subst hx
   exact ih j y u he hu
 | val v=>exact .val v
 | dead v=>exact .dead v
 | ptr hb=>exact .ptr hb
 | sl hb=>exact .sl hb
 | row h hb hn hm hc=>exact .row h hb hn hm hc
 | map h=>exact .map h
 | yld h=>exact .yld h
 | elt hl h1 hs hw hv ih=>exact .elt hl h1 hs hw hv
 | tup hl hv ih=>exact .tup hl hv
 | fn hl hv hl2 hv2=>exact .fn hl hv hl2 hv2
 | ifc h=>exact .ifc h
section
variable {P:Program} {G:ax}
theorem VCx.toArg {ro:Nat} {f:FuncId} {xs:List TV} {T:VT} {Q:TV→VT→Prop} (h:∀m,VCx P G ro f (kU m xs) T Q):VCx P G ro f xs T Q:=by
 intro g w us r hG hx
 refine h w.heap.size g w us r hG ⟨by rw [iO,List.length_map];exact hx.1,fun j x u hj hu=> ?_⟩
 rw [iO,List.getElem?_map] at hj
 cases he:xs[j]? with
 | none=>rw [he] at hj;cases hj
 | some y=>
  rw [he] at hj
  injection hj with hj
  subst hj
  exact (hx.2 j y u he hu).toArg
end
end
section
open Go.RowKit

abbrev dD:=23
def Ei (l:List TV) (ok:Bool):Prop:=∃(p:Px) (a:AtV) (g:Bool) (m:Nat),l=qH p.1 p.2 m a g∧a.p.length≤9223372036854775807∧ok=uQ p a g
def A9 (ok:Bool):aO:=fun _ ys T K=>match ys with
 | [.agg l]=>Ei l ok∧K (.val (.bool ok)) T
 | _=>ap 84 default ys
def Gn (T1 T2:VT) (n:Nat):aO:=fun ro ys T K=>((@Eq Nat ro 0)∧(@Eq (List TV) ys [.row 8 1 0 n, .fn (.func 57) [] []])∧(@Eq VT T T1))∧K (.val (.tuple #[])) T2
def Ej:aO:=fun ro ys T K=>((@Eq Nat ro 0)∧(@Eq (List TV) ys [.vec 8 [] (.tail 0 0), .fn (.func 57) [] []]))∧K (.val (.tuple #[])) T
def o5:List Nat:= [0,3,12,13,14]
def ji (L:Bs) (tk:Tok) (j:Int):List TV:= [.vec 8 L tk, .map 0, .vec 8 L tk, .val (.int .i64 L.length), .val (.int .i64 j)]
def qJ (lk:gS) (es:gM) (ck:Nat):VT:=⟨[.map kP lk es ck], []⟩
def np:List Nat:= [3,6,26,27,28]
def eF (L:Bs) (tk:Tok) (l:Bs) (j:Int):List TV:= [.map 0, .vec 8 l (.tail 0 l.length), .vec 8 L tk, .val (.int .i64 L.length), .val (.int .i64 j)]
def iP (lk:gS) (es:gM) (ck n:Nat):VT:=⟨[.map kP lk es ck], [(n,8,true)]⟩
def jF (lk:gS) (es:gM) (ck n:Nat) (cs:List TV):VT:=⟨[.map kP lk es ck, .row cs], [(n+1,8,false)]⟩
def GQ (L:Bs) (tk:Tok) (lk:gS) (es:gM) (ck:Nat) (c0 c2:Code):Nat→Option (bP × Code):=cB [(0,dw 54 o5 [] (ji L tk 0) (qJ (fun _=>none) [] 0) (fun K=>K .normal (aq 54 o5 (ji L tk L.length)) (qJ lk es ck) []),c0),(2,dw 54 np [(6,8)] (eF L tk [] 0) (iP lk es ck 0) (fun K=>K .normal (aq 54 np (eF L tk [] L.length)) (iP lk es ck 0) []),c2)]
def GR (L:Bs) (tk:Tok) (lk:gS) (es:gM) (ck:Nat) (A:Bs) (c0 c2:Code):Nat→Option (bP × Code):=cB [(0,dw 54 o5 [] (ji L tk 0) (qJ (fun _=>none) [] 0) (fun K=>K .normal (aq 54 o5 (ji L tk L.length)) (qJ lk es ck) []),c0),(2,uq 54 np [(6,8)] (eF L tk [] 0) (iP lk es ck 0) (iP lk es ck A.length) 6 0 8 A,c2)]
theorem Ek (L:Bs) (tk:Tok) (lk:gS) (es:gM) (ck:Nat) (Q:TV→VT→Prop):an Try.prog ae (aw [(sY,Ej)]) (aV [(999998, .dead,none)]) 300 (GQ L tk lk es ck (ar Try.prog dD 0) (ar Try.prog dD 2)) 0 dD [.vec 8 L tk] ⟨[], []⟩ Q=
 ((ar Try.prog dD (0:Nat)=ar Try.prog dD (0:Nat))∧
 (((@Eq (Option Nat) .none .none)∧
 ((@Eq (Nat) 0 0)∧
 ((@Eq (List Nat) [] [])∧
 (True  ∧
 ((@Eq (VT) ⟨[(.map ⟨true, [(.int .u32),(.int .i64)]⟩ (fun _=> .none) [] 0)], []⟩ ⟨[(.map ⟨true, [(.int .u32),(.int .i64)]⟩ (fun _=> .none) [] 0)], []⟩)∧
 ((@Eq (Bool) true true)∧
 (@Eq (List TV) [(.vec 8 (L) (tk)),(.map 0),(.vec 8 (L) (tk)),(.val (.int .i64 ((↑(List.length L):Int)))),(.val (.int .i64 0))] [(.vec 8 (L) (tk)),(.map 0),(.vec 8 (L) (tk)),(.val (.int .i64 ((↑(List.length L):Int)))),(.val (.int .i64 0))])))))))∧
 ((ar Try.prog dD (2:Nat)=ar Try.prog dD (2:Nat))∧
 (((@Eq (Option Nat) .none .none)∧
 ((@Eq (Nat) 0 0)∧
 ((@Eq (List Nat) [] [])∧
 (((@Eq (Option TV) (.some (.val (.slice .none 0 0))) (.some (.val (.slice .none 0 0))))∧
 True)∧
 ((@Eq (VT) ⟨[(.map ⟨true, [(.int .u32),(.int .i64)]⟩ (lk) (es) (ck))], [(0,(8,true))]⟩ ⟨[(.map ⟨true, [(.int .u32),(.int .i64)]⟩ (lk) (es) (ck))], [(0,(8,true))]⟩)∧
 ((@Eq (Bool) true true)∧
 (@Eq (List TV) [(.map 0),(.vec 8 [] (.tail 0 0)),(.vec 8 (L) (tk)),(.val (.int .i64 ((↑(List.length L):Int)))),(.val (.int .i64 0))] [(.map 0),(.vec 8 [] (.tail 0 0)),(.vec 8 (L) (tk)),(.val (.int .i64 ((↑(List.length L):Int)))),(.val (.int .i64 0))])))))))∧
 (((@Eq (Nat) 0 0)∧
 (@Eq (List TV) [(.vec 8 [] (.tail 0 0)),(.fn (.func 57) [] [])] [(.vec 8 [] (.tail 0 0)),(.fn (.func 57) [] [])]))∧
 Q (.vec 8 [] (.tail 0 0)) ⟨[(.map ⟨true, [(.int .u32),(.int .i64)]⟩ (lk) (es) (ck))], [(0,(8,true))]⟩))))):=by kernel_rfl
theorem El (L A B:Bs) (tk:Tok) (lk:gS) (es:gM) (ck:Nat) (Q:TV→VT→Prop):an Try.prog ae (aw [(sY,Gn (jF lk es ck A.length A.flatten) (jF lk es ck A.length B.flatten) A.length)]) (aV [(999998, .dead,none)]) 300 (GR L tk lk es ck A (ar Try.prog dD 0) (ar Try.prog dD 2)) 0 dD [.vec 8 L tk] ⟨[], []⟩ Q=
 ((ar Try.prog dD (0:Nat)=ar Try.prog dD (0:Nat))∧
 (((@Eq (Option Nat) .none .none)∧
 ((@Eq (Nat) 0 0)∧
 ((@Eq (List Nat) [] [])∧
 (True  ∧
 ((@Eq (VT) ⟨[(.map ⟨true, [(.int .u32),(.int .i64)]⟩ (fun _=> .none) [] 0)], []⟩ ⟨[(.map ⟨true, [(.int .u32),(.int .i64)]⟩ (fun _=> .none) [] 0)], []⟩)∧
 ((@Eq (Bool) true true)∧
 (@Eq (List TV) [(.vec 8 (L) (tk)),(.map 0),(.vec 8 (L) (tk)),(.val (.int .i64 ((↑(List.length L):Int)))),(.val (.int .i64 0))] [(.vec 8 (L) (tk)),(.map 0),(.vec 8 (L) (tk)),(.val (.int .i64 ((↑(List.length L):Int)))),(.val (.int .i64 0))])))))))∧
 ((ar Try.prog dD (2:Nat)=ar Try.prog dD (2:Nat))∧
 (((@Eq (Option Nat) .none .none)∧
 ((@Eq (Nat) 0 0)∧
 ((@Eq (List Nat) [] [])∧
 (((@Eq (Option TV) (.some (.val (.slice .none 0 0))) (.some (.val (.slice .none 0 0))))∧
 True)∧
 ((@Eq (VT) ⟨[(.map ⟨true, [(.int .u32),(.int .i64)]⟩ (lk) (es) (ck))], [(0,(8,true))]⟩ ⟨[(.map ⟨true, [(.int .u32),(.int .i64)]⟩ (lk) (es) (ck))], [(0,(8,true))]⟩)∧
 ((@Eq (Bool) true true)∧
 ((@Eq (List TV) [(.map 0),(.vec 8 [] (.tail 0 0)),(.vec 8 (L) (tk)),(.val (.int .i64 ((↑(List.length L):Int)))),(.val (.int .i64 0))] [(.map 0),(.vec 8 [] (.tail 0 0)),(.vec 8 (L) (tk)),(.val (.int .i64 ((↑(List.length L):Int)))),(.val (.int .i64 0))])∧
 (@Eq (Bool) true true))))))))∧
 (((@Eq (Nat) 0 0)∧
 ((@Eq (List TV) [(.row 8 1 0 (List.length A)),(.fn (.func 57) [] [])] [(.row 8 1 0 (List.length A)),(.fn (.func 57) [] [])])∧
 (@Eq (VT) ⟨[(.map ⟨true, [(.int .u32),(.int .i64)]⟩ (lk) (es) (ck)),(.row (List.flatten A))], [((List.length A+(1:Nat)),(8,false))]⟩ ⟨[(.map ⟨true, [(.int .u32),(.int .i64)]⟩ (lk) (es) (ck)),(.row (List.flatten A))], [((List.length A+(1:Nat)),(8,false))]⟩)))∧
 Q (.row 8 1 0 (List.length A)) ⟨[(.map ⟨true, [(.int .u32),(.int .i64)]⟩ (lk) (es) (ck)),(.row (List.flatten B))], [((List.length A+(1:Nat)),(8,false))]⟩))))):=by kernel_rfl
theorem yn (L:Bs) (tk:Tok) (lk:gS) (es:gM) (ck:Nat) (a n:Int) (m:Nat) (x:AtV) (g ok:Bool) (j:Nat) (Q:Exit→List TV→VT→List Nat→Nat→Prop):vx Try.prog ae (aw [(yk,A9 ok)]) (aV [(999998, .dead,none),(17, .elt (qH a n m x g),none)]) 300 ay none 0 (cp Try.prog dD 0) (aq 54 o5 (ji L tk j)) (qJ lk es ck) [] (cQ o5 Q)=
 (bif decide ((↑j:Int)<(↑(List.length L):Int))
 then (aU Try.prog (fun _=> .none) (.indexAddr 48 (.tmp 12) (.tmp 14)) [(12,(.vec 8 (L) (tk))),(14,(.val (.int .i64 ((↑j:Int)))))] (.elt [(.val (.int .u32 (a))),(.val (.int .i64 (n))),(.val (.int .i64 (AtV.o x))),(.vec 1 (iV (AtV.p x)) (.arg (m))),(.val (.int .u32 (AtV.h x))),(.val (.int .i64 (AtV.m x))),(.val (.bool (AtV.hm x))),(.val (.bool (g)))])∧
 (Ei [(.val (.int .u32 (a))),(.val (.int .i64 (n))),(.val (.int .i64 (AtV.o x))),(.vec 1 (iV (AtV.p x)) (.arg (m))),(.val (.int .u32 (AtV.h x))),(.val (.int .i64 (AtV.m x))),(.val (.bool (AtV.hm x))),(.val (.bool (g)))] (ok)∧
 (bif ok
 then Q .normal [(.vec 8 (L) (tk)),(.map 0),(.vec 8 (L) (tk)),(.val (.int .i64 ((↑(List.length L):Int)))),(.val (.int .i64 (IntKind.wrap IntKind.i64 ((↑j:Int)+(1:Int)))))] ⟨[(.map ⟨true, [(.int .u32),(.int .i64)]⟩ (fun kk=>(bif ak ((fun vs=>Value.agg (List.toArray vs)) ((fun x=>Value.int IntKind.u32 a::x) ((fun x=>Value.int IntKind.i64 n::x) []))) kk then (.some (.val (.int .i64 ((↑j:Int))))) else (lk kk))) (ci (.agg #[(.int .u32 (a)),(.int .i64 (n))]) (.val (.int .i64 ((↑j:Int)))) (ck) (es)) (match lk ((fun vs=>Value.agg (List.toArray vs)) ((fun x=>Value.int IntKind.u32 a::x) ((fun x=>Value.int IntKind.i64 n::x) []))) with
| some val=>ck
| none=>ck+(1:Nat))),(.cells [(.val (.int .u32 (a))),(.val (.int .i64 (n))),(.val (.int .i64 (AtV.o x))),(.vec 1 (iV (AtV.p x)) (.arg (m))),(.val (.int .u32 (AtV.h x))),(.val (.int .i64 (AtV.m x))),(.val (.bool (AtV.hm x))),(.val (.bool (g)))])], []⟩ [] 54
 else Q .normal [(.vec 8 (L) (tk)),(.map 0),(.vec 8 (L) (tk)),(.val (.int .i64 ((↑(List.length L):Int)))),(.val (.int .i64 (IntKind.wrap IntKind.i64 ((↑j:Int)+(1:Int)))))] ⟨[(.map ⟨true, [(.int .u32),(.int .i64)]⟩ (lk) (es) (ck)),(.cells [(.val (.int .u32 (a))),(.val (.int .i64 (n))),(.val (.int .i64 (AtV.o x))),(.vec 1 (iV (AtV.p x)) (.arg (m))),(.val (.int .u32 (AtV.h x))),(.val (.int .i64 (AtV.m x))),(.val (.bool (AtV.hm x))),(.val (.bool (g)))])], []⟩ [] 54)))
 else Q (.exit 0) [(.vec 8 (L) (tk)),(.map 0),(.vec 8 (L) (tk)),(.val (.int .i64 ((↑(List.length L):Int)))),(.val (.int .i64 ((↑j:Int))))] ⟨[(.map ⟨true, [(.int .u32),(.int .i64)]⟩ (lk) (es) (ck))], []⟩ [] 54):=by kernel_rfl
theorem yp (L l l2:Bs) (tk:Tok) (lk:gS) (es:gM) (ck:Nat) (a n i:Int) (m n2:Nat) (x:AtV) (g b:Bool) (j:Nat) (tl2:oT) (Q:Exit→List TV→VT→List Nat→Nat→Prop):vx Try.prog ae bc (aV [(999998, .dead,none),(31, .elt (qH a n m x g),none),(37, .tup [.val (.int .i64 i), .val (.bool b)],some fun T=>T),(49, .vec 8 l2 (.tail 0 n2),some fun T=>{T with tails:=tl2})]) 300 ay none 0 (cp Try.prog dD 2) (aq 54 np (eF L tk l j)) (iP lk es ck l.length) [] (cQ np Q)=
 (bif decide ((↑j:Int)<(↑(List.length L):Int))
 then (aU Try.prog (fun _=> .none) (.indexAddr 48 (.tmp 26) (.tmp 28)) [(26,(.vec 8 (L) (tk))),(28,(.val (.int .i64 ((↑j:Int)))))] (.elt [(.val (.int .u32 (a))),(.val (.int .i64 (n))),(.val (.int .i64 (AtV.o x))),(.vec 1 (iV (AtV.p x)) (.arg (m))),(.val (.int .u32 (AtV.h x))),(.val (.int .i64 (AtV.m x))),(.val (.bool (AtV.hm x))),(.val (.bool (g)))])∧
 (aW Try.prog (fun _=> .none) 0 ⟨[(.map ⟨true, [(.int .u32),(.int .i64)]⟩ (lk) (es) (ck)),(.cells [(.val (.int .u32 (a))),(.val (.int .i64 (n))),(.val (.int .i64 (AtV.o x))),(.vec 1 (iV (AtV.p x)) (.arg (m))),(.val (.int .u32 (AtV.h x))),(.val (.int .i64 (AtV.m x))),(.val (.bool (AtV.hm x))),(.val (.bool (g)))])], [((List.length l),(8,true))]⟩ (.lookup 99 (.tmp 34) (.tmp 36) true) [(34,(.map 0)),(36,(.agg [(.val (.int .u32 (a))),(.val (.int .i64 (n)))]))] (.tup [(.val (.int .i64 (i))),(.val (.bool (b)))]) ⟨[(.map ⟨true, [(.int .u32),(.int .i64)]⟩ (lk) (es) (ck)),(.cells [(.val (.int .u32 (a))),(.val (.int .i64 (n))),(.val (.int .i64 (AtV.o x))),(.vec 1 (iV (AtV.p x)) (.arg (m))),(.val (.int .u32 (AtV.h x))),(.val (.int .i64 (AtV.m x))),(.val (.bool (AtV.hm x))),(.val (.bool (g)))])], [((List.length l),(8,true))]⟩∧
 (bif b
 then (bif bb BinOp.eql (ak (Value.int IntKind.i64 i) (Value.int IntKind.i64 (↑j:Int)))
 then (aW Try.prog (fun _=> .none) 0 ⟨[(.map ⟨true, [(.int .u32),(.int .i64)]⟩ (lk) (es) (ck)),(.cells [(.val (.int .u32 (a))),(.val (.int .i64 (n))),(.val (.int .i64 (AtV.o x))),(.vec 1 (iV (AtV.p x)) (.arg (m))),(.val (.int .u32 (AtV.h x))),(.val (.int .i64 (AtV.m x))),(.val (.bool (AtV.hm x))),(.val (.bool (g)))])], [((List.length l),(8,true))]⟩ (.call ⟨(.builtin .append), #[(.tmp 46),(.tmp 48)], #[48,48]⟩) [(46,(.vec 8 (l) (.tail 0 (List.length l)))),(48,(.vec 8 [[(.val (.int .u32 (a))),(.val (.int .i64 (n))),(.val (.int .i64 (AtV.o x))),(.vec 1 (iV (AtV.p x)) (.arg (m))),(.val (.int .u32 (AtV.h x))),(.val (.int .i64 (AtV.m x))),(.val (.bool (AtV.hm x))),(.val (.bool (g)))]] .full))] (.vec 8 (l2) (.tail 0 (n2))) ⟨[(.map ⟨true, [(.int .u32),(.int .i64)]⟩ (lk) (es) (ck)),(.cells [(.val (.int .u32 (a))),(.val (.int .i64 (n))),(.val (.int .i64 (AtV.o x))),(.vec 1 (iV (AtV.p x)) (.arg (m))),(.val (.int .u32 (AtV.h x))),(.val (.int .i64 (AtV.m x))),(.val (.bool (AtV.hm x))),(.val (.bool (g)))])],(tl2)⟩∧
 Q .normal [(.map 0),(.vec 8 (l2) (.tail 0 (n2))),(.vec 8 (L) (tk)),(.val (.int .i64 ((↑(List.length L):Int)))),(.val (.int .i64 (IntKind.wrap IntKind.i64 ((↑j:Int)+(1:Int)))))] ⟨[(.map ⟨true, [(.int .u32),(.int .i64)]⟩ (lk) (es) (ck)),(.cells [(.val (.int .u32 (a))),(.val (.int .i64 (n))),(.val (.int .i64 (AtV.o x))),(.vec 1 (iV (AtV.p x)) (.arg (m))),(.val (.int .u32 (AtV.h x))),(.val (.int .i64 (AtV.m x))),(.val (.bool (AtV.hm x))),(.val (.bool (g)))])],(tl2)⟩ [] 54)
 else Q .normal [(.map 0),(.vec 8 (l) (.tail 0 (List.length l))),(.vec 8 (L) (tk)),(.val (.int .i64 ((↑(List.length L):Int)))),(.val (.int .i64 (IntKind.wrap IntKind.i64 ((↑j:Int)+(1:Int)))))] ⟨[(.map ⟨true, [(.int .u32),(.int .i64)]⟩ (lk) (es) (ck)),(.cells [(.val (.int .u32 (a))),(.val (.int .i64 (n))),(.val (.int .i64 (AtV.o x))),(.vec 1 (iV (AtV.p x)) (.arg (m))),(.val (.int .u32 (AtV.h x))),(.val (.int .i64 (AtV.m x))),(.val (.bool (AtV.hm x))),(.val (.bool (g)))])], [((List.length l),(8,true))]⟩ [] 54)
 else Q .normal [(.map 0),(.vec 8 (l) (.tail 0 (List.length l))),(.vec 8 (L) (tk)),(.val (.int .i64 ((↑(List.length L):Int)))),(.val (.int .i64 (IntKind.wrap IntKind.i64 ((↑j:Int)+(1:Int)))))] ⟨[(.map ⟨true, [(.int .u32),(.int .i64)]⟩ (lk) (es) (ck)),(.cells [(.val (.int .u32 (a))),(.val (.int .i64 (n))),(.val (.int .i64 (AtV.o x))),(.vec 1 (iV (AtV.p x)) (.arg (m))),(.val (.int .u32 (AtV.h x))),(.val (.int .i64 (AtV.m x))),(.val (.bool (AtV.hm x))),(.val (.bool (g)))])], [((List.length l),(8,true))]⟩ [] 54)))
 else Q (.exit 2) [(.map 0),(.vec 8 (l) (.tail 0 (List.length l))),(.vec 8 (L) (tk)),(.val (.int .i64 ((↑(List.length L):Int)))),(.val (.int .i64 ((↑j:Int))))] ⟨[(.map ⟨true, [(.int .u32),(.int .i64)]⟩ (lk) (es) (ck))], [((List.length l),(8,true))]⟩ [] 54):=by kernel_rfl
end
section
open Go.RowKit
set_option maxRecDepth 100000

theorem yq (p:Px) (m:Nat) (a:AtV) (g:Bool):TVleL (qH p.1 p.2 m a g) (gU p.1 p.2 a g):=⟨.refl _, .refl _, .refl _, .vec 1 _ _, .refl _, .refl _, .refl _, .refl _,trivial⟩
theorem Em (ok:Bool):∀ro ys T K,A9 ok ro ys T K→VCx Try.prog ae ro yk ys T K:=by
 intro ro ys T K hw
 unfold A9 at hw
 split at hw
 ·obtain ⟨⟨p,a,g,m,rfl,ha,rfl⟩,hk⟩:=hw
  refine VCx.argsLe (xs:= [.agg (gU p.1 p.2 a g)]) ⟨.agg (yq p m a g),trivial⟩ ?_
  refine VCx.liftPure am (Eg p g ha) ?_ (fun _ _=>rfl) hk
  simp only [av,TV.ren,AtV.cells,dA,Tok.ren,gU,List.cons_append,List.nil_append]
 ·exact hw.elim
end
section
open Go.RowKit

structure RowI (P:Program) (t e:TypeId) (n:Nat):Prop where
 sl:P.underlying t=some (.slice e)
 ex:∃(inf:TypeInfo) (z:Value),P.info? e=some inf∧inf.size=n∧inf.bytes+1≤1000∧inf.zero=some z∧z.cells.size=n
 pos:0<n
section
variable {P:Program} {G:ax} {t e:TypeId} {n:Nat}
theorem RowI.ix (h:RowI P t e n) {es:List (List TV)} {tok:Tok} {x i j:Nat} {cs:List TV} (hne:Nat.beq x i=false) (hp:es[j]?=some cs):aU P G (.indexAddr t (.tmp x) (.tmp i)) [(x, .vec n es tok),(i, .val (.int .i64 (j:Int)))] (.elt cs):=by
 obtain ⟨inf,z,i1,i2,i3,i4,i5⟩:=h.ex
 exact eW (inf:=inf) (es:=es) (tok:=tok) (k:= .i64) (z:=(j:Int)) h.sl i1 (by rw [i2];simp [aN,cu]) (by simp [aN,cu,hne]) (by omega) (by simpa using hp)
theorem RowI.hi (h:RowI P t e n) {es:List (List TV)} {tok:Tok} {x i j:Nat} (hne:Nat.beq x i=false) (hp:j≤es.length):aU P G (.slice t (.tmp x) none (some (.tmp i)) none) [(x, .vec n es tok),(i, .val (.int .i64 (j:Int)))] (.vec n (es.take j) .none):=by
 obtain ⟨inf,z,i1,i2,i3,i4,i5⟩:=h.ex
 have:=sj (P:=P) (G:=G) (t:=t) (x:= .tmp x) (i:= .tmp i) (l:= [(x, .vec n es tok),(i, .val (.int .i64 (j:Int)))]) (inf:=inf) (es:=es) (tok:=tok) (k:= .i64) (z:=(j:Int)) h.sl i1 (by rw [i2];simp [aN,cu]) (by simp [aN,cu,hne]) (by omega) (by simpa using hp)
 rw [i2] at this
 simpa using this
theorem RowI.lo (h:RowI P t e n) {es:List (List TV)} {tok:Tok} {x i j:Nat} (hne:Nat.beq x i=false) (hp:j≤es.length):aU P G (.slice t (.tmp x) (some (.tmp i)) none none) [(x, .vec n es tok),(i, .val (.int .i64 (j:Int)))] (.vec n (es.drop j) tok):=by
 obtain ⟨inf,z,i1,i2,i3,i4,i5⟩:=h.ex
 have:=zE (P:=P) (G:=G) (t:=t) (x:= .tmp x) (i:= .tmp i) (l:= [(x, .vec n es tok),(i, .val (.int .i64 (j:Int)))]) (inf:=inf) (es:=es) (tok:=tok) (k:= .i64) (z:=(j:Int)) h.sl i1 (by rw [i2];simp [aN,cu]) (by simp [aN,cu,hne]) (by omega) (by simpa using hp)
 rw [i2] at this
 simpa using this
theorem RowI.ix0 (h:RowI P t e n) {es:List (List TV)} {tok:Tok} {x:Nat} {cs:List TV} (hp:es[0]?=some cs):aU P G (.indexAddr t (.tmp x) (.const (.int .i64 0))) [(x, .vec n es tok)] (.elt cs):=by
 obtain ⟨inf,z,i1,i2,i3,i4,i5⟩:=h.ex
 exact eW (inf:=inf) (es:=es) (tok:=tok) (k:= .i64) (z:=0) h.sl i1 (by rw [i2];simp [aN,cu]) (by simp [aN];rfl) (by omega) (by simpa using hp)
theorem RowI.hm (h:RowI P t e n) {es:List (List TV)} {tok:Tok} {x i k j:Nat} (hne:Nat.beq x i=false) (hn2:Nat.beq x k=false) (hn3:Nat.beq i k=false) (hp:j≤es.length):aU P G (.slice t (.tmp x) none (some (.tmp i)) (some (.tmp k))) [(x, .vec n es tok),(i, .val (.int .i64 (j:Int))),(k, .val (.int .i64 (j:Int)))] (.vec n (es.take j) .none):=by
 obtain ⟨inf,z,i1,i2,i3,i4,i5⟩:=h.ex
 refine ⟨?_⟩
 have hb:Nat.ble j es.length=true:=Nat.ble_eq_true_of_le hp
 have hb2:Nat.ble j j=true:=Nat.ble_eq_true_of_le (Nat.le_refl _)
 have hb3:Nat.ble 0 j=true:=Nat.ble_eq_true_of_le (Nat.zero_le _)
 simp [hb2,hb3,aS,hZ,aN,cu,hne,hn2,hn3,h.sl,i1,i2,ec,dv,hb]
theorem RowI.app (h:RowI P t e n) {T:VT} {k:Nat} {bn:Bool} {es es2:List (List TV)} {tok:Tok} {s x:Nat} (hk:T.tails[k]?=some (es.length,n,bn)) (hne:Nat.beq s x=false) (hl:es.length+es2.length≤100000000):
    aW P G 0 T (.call ⟨.builtin .append, #[.tmp s, .tmp x], #[t,t]⟩) [(s, .vec n es (.tail k es.length)),(x, .vec n es2 tok)] (.vec n (es++es2) (.tail k (es.length+es2.length))) {T with tails:=T.tails.set k (es.length+es2.length,n,bn)}:=by
  obtain ⟨inf,z,i1,i2,i3,i4,i5⟩:=h.ex
  have h1:=lV (inf:=inf) (P:=P) (G:=G) (ro:=0) (T:=T) (T1:=T) (t:=t) (tx:=t) (s:= .tmp s) (x:= .tmp x) (l:= [(s, .vec n es (.tail k es.length)),(x, .vec n es2 tok)]) (es:=es) (es2:=es2) (k:=k) (n:=es.length) (bn:=bn) h.sl i1 i4 (by rw [i5,i2]) (by rw [i2];exact h.pos) (by rw [h.sl];rfl)
    (by rw [i2];simp [aN,cu,eR,hk]) (by rw [i2];simp [aN,cu,hne,gu])
    (by have h2:=Nat.mul_le_mul hl i3
        omega)
  rw [i2] at h1
  exact h1
end
end
section
open Go.RowKit
set_option maxRecDepth 100000

abbrev Ch:=Px × AtV × Bool
def dN (c:Ch):Bool:=uQ c.1 c.2.1 c.2.2
def aE (m:Nat) (c:Ch):List TV:=qH c.1.1 c.1.2 m c.2.1 c.2.2
theorem mg:RowI Try.prog 48 34 8:=⟨Try.underlying48,⟨(Try.prog.info? 34).getD default,((Try.prog.info? 34).getD default).zero.getD default,by kernel_rfl,by kernel_rfl,Nat.le_of_ble_eq_true (by kernel_rfl),by kernel_rfl,by kernel_rfl⟩,by omega⟩
theorem Cv (m:Nat) (c:Ch) (f g:Nat→Option Nat):av f g (aE m c)=aE m c:=by
 simp only [aE,qH,av,TV.ren,dA,Tok.ren]
theorem kV (m:Nat) (f g:Nat→Option Nat) (cs:List Ch):bf f g (cs.map (aE m))=cs.map (aE m):=eJ (aE m) (fun a=>Cv m a f g) cs
def fE (cs:List Ch):Nat→Px→Option Nat
 | 0,_=>none
 | j+1,p=>match cs[j]? with
  | some c=>bif dN c&&decide (c.1=p) then some j else fE cs j p
  | none=>fE cs j p
theorem sZ {cs:List Ch} {j:Nat} {c:Ch} (h:cs[j]?=some c) (p:Px):fE cs (j+1) p=bif dN c&&decide (c.1=p) then some j else fE cs j p:=by
 simp only [fE,h]
theorem s7 {cs:List Ch} {p:Px} {i:Nat}:∀{j:Nat},fE cs j p=some i→i<j∧∃c,cs[i]?=some c∧dN c=true∧c.1=p
 | 0,h=>by cases h
 | j+1,h=>by
  cases hc:cs[j]? with
  | none=>
   simp only [fE,hc] at h
   obtain ⟨h1,h2⟩:=s7 h
   exact ⟨by omega,h2⟩
  | some c=>
   rw [sZ hc] at h
   cases hb:dN c&&decide (c.1=p) with
   | true=>
    rw [hb,cond_true] at h
    injection h with h;subst h
    simp only [Bool.and_eq_true,decide_eq_true_eq] at hb
    exact ⟨by omega,c,hc,hb.1,hb.2⟩
   | false=>
    rw [hb,cond_false] at h
    obtain ⟨h1,h2⟩:=s7 h
    exact ⟨by omega,h2⟩
def aK (cs:List Ch):Nat→gS × gM × Nat
 | 0=>(fun _=>none, [],0)
 | j+1=>match cs[j]? with
  | some c=>bif dN c then ((fun kk=>bif ak (dC c.1) kk then some (.val (.int .i64 (j:Int))) else (aK cs j).1 kk),ci (dC c.1) (.val (.int .i64 (j:Int))) (aK cs j).2.2 (aK cs j).2.1,match (aK cs j).1 (dC c.1) with
   | some _=>(aK cs j).2.2
   | none=>(aK cs j).2.2+1) else aK cs j
  | none=>aK cs j
def s8 (cs:List Ch) (j:Nat):VT:=qJ (aK cs j).1 (aK cs j).2.1 (aK cs j).2.2
theorem nU {cs:List Ch} {j:Nat} {c:Ch} (h:cs[j]?=some c) (hg:dN c=true):aK cs (j+1)=((fun kk=>bif ak (dC c.1) kk then some (.val (.int .i64 (j:Int))) else (aK cs j).1 kk),ci (dC c.1) (.val (.int .i64 (j:Int))) (aK cs j).2.2 (aK cs j).2.1,match (aK cs j).1 (dC c.1) with
   | some _=>(aK cs j).2.2
   | none=>(aK cs j).2.2+1):=by
 simp only [aK,h,hg,cond_true]
theorem pR {cs:List Ch} {j:Nat} {c:Ch} (h:cs[j]?=some c) (hg:dN c=false):aK cs (j+1)=aK cs j:=by
 simp only [aK,h,hg,cond_false]
theorem s9 {cs:List Ch} {j:Nat} (h:cs[j]?=none):aK cs (j+1)=aK cs j:=by
 simp only [aK,h]
theorem mh {cs:List Ch} (p:Px):∀j,(aK cs j).1 (dC p)=(fE cs j p).map fun i=> .val (.int .i64 (i:Int))
 | 0=>rfl
 | j+1=>by
  cases hc:cs[j]? with
  | none=>simp only [s9 hc,fE,hc];exact mh p j
  | some c=>
   rw [sZ hc]
   cases hg:dN c with
   | false=>rw [pR hc hg];exact mh p j
   | true=>
    rw [nU hc hg]
    show (bif ak (dC c.1) (dC p) then _ else _)=_
    rw [GE]
    cases hd:decide (c.1=p) with
    | true=>rfl
    | false=>exact mh p j
theorem ta {Q:TV→Prop} {k:Value} {v:TV} {ck:Nat} (hv:Q v):∀{es:gM},(∀e∈es,Q e.2.1)→∀e∈ci k v ck es,Q e.2.1
 | [],_,e,he=>by
  simp only [ci,List.mem_singleton] at he
  subst he;exact hv
 | a::es,h,e,he=>by
  unfold ci at he
  cases hk:ak k a.1 with
  | true=>
   rw [hk,cond_true] at he
   rcases List.mem_cons.1 he with rfl | he
   ·exact hv
   ·exact h e (List.mem_cons_of_mem _ he)
  | false=>
   rw [hk,cond_false] at he
   rcases List.mem_cons.1 he with rfl | he
   ·exact h _ List.mem_cons_self
   ·exact ta hv (fun e he=>h e (List.mem_cons_of_mem _ he)) e he
theorem pS {cs:List Ch}:∀j,(∀k x,(aK cs j).1 k=some x→∃v,x= .val v)∧∀e∈(aK cs j).2.1,∃v,e.2.1= .val v
 | 0=>⟨fun _ _ h=>by simp [aK] at h,fun _ h=>by simp [aK] at h⟩
 | j+1=>by
  obtain ⟨h1,h2⟩:=pS (cs:=cs) j
  cases hc:cs[j]? with
  | none=>rw [s9 hc];exact ⟨h1,h2⟩
  | some c=>
   cases hg:dN c with
   | false=>rw [pR hc hg];exact ⟨h1,h2⟩
   | true=>
    rw [nU hc hg]
    refine ⟨fun k x h=> ?_,ta (Q:=fun x=>∃v,x= .val v) ⟨_,rfl⟩ h2⟩
    simp only at h
    cases hk:ak (dC c.1) k with
    | true=>rw [hk,cond_true] at h;injection h with h;exact ⟨_,h.symm⟩
    | false=>rw [hk,cond_false] at h;exact h1 k x h
theorem pT (cs:List Ch) (j:Nat) (f g:Nat→Option Nat):VO.ren f g (.map kP (aK cs j).1 (aK cs j).2.1 (aK cs j).2.2)= .map kP (aK cs j).1 (aK cs j).2.1 (aK cs j).2.2:=by
 obtain ⟨v1,v2⟩:=pS (cs:=cs) j
 have h1:(fun k=>((aK cs j).1 k).map (TV.ren f g))=(aK cs j).1:=by
  funext k
  cases hk:(aK cs j).1 k with
  | none=>rfl
  | some x=>obtain ⟨v,rfl⟩:=v1 k x hk;rfl
 have h2:(aK cs j).2.1.map (fun e=>(e.1,e.2.1.ren f g,e.2.2))=(aK cs j).2.1:=by
  conv=>rhs;rw [←List.map_id (aK cs j).2.1]
  refine List.map_congr_left fun e he=> ?_
  obtain ⟨v,h2⟩:=v2 e he
  rw [h2];simp only [TV.ren];rw [←h2];rfl
 simp only [VO.ren,h1,h2]
theorem uS (cs:List Ch) (j:Nat) (o:List VO):VT.keep ⟨.map kP (aK cs j).1 (aK cs j).2.1 (aK cs j).2.2::o, []⟩ 1 0=s8 cs j:=by
 have e:=pT cs j (au 1) (au 0)
 simp only [VT.keep,List.take_succ_cons,List.take_zero,List.map_cons,List.map_nil,e,s8,qJ]
theorem uT (cs:List Ch) (j n:Nat) (o:List VO):VT.keep ⟨.map kP (aK cs j).1 (aK cs j).2.1 (aK cs j).2.2::o, [(n,8,true)]⟩ 1 1=iP (aK cs j).1 (aK cs j).2.1 (aK cs j).2.2 n:=by
 have e:=pT cs j (au 1) (au 1)
 simp only [VT.keep,List.take_succ_cons,List.take_zero,List.map_cons,List.map_nil,e,iP]
theorem Ba (ok:Bool):aZ Try.prog ae (aw [(yk,A9 ok)]):=az fun p hp=>by obtain rfl:=List.mem_singleton.1 hp;exact Em ok
theorem Cw {cs:List Ch} (hl:cs.length≤1000000) (hp:∀c∈cs,c.2.1.p.length≤9223372036854775807) (m:Nat) (K:KX) (hK:K .normal (aq 54 o5 (ji (cs.map (aE m)) (.arg m) ((cs.map (aE m)).length:Nat))) (s8 cs cs.length) []):
    VWx Try.prog ae none 0 (ar Try.prog dD 0) (aq 54 o5 (ji (cs.map (aE m)) (.arg m) 0)) (qJ (fun _=>none) [] 0) [] K:=by
  have hlen:(cs.map (aE m)).length=cs.length:=List.length_map _
  refine di (f:=dD) (id:=0) (by kernel_rfl) 54 o5 (fun j:Nat=>cs.length-j) (fun j:Nat=>ji (cs.map (aE m)) (.arg m) (j:Int)) (fun j=>s8 cs j) (fun j=>j≤cs.length) 1 0 (fun j _=>⟨Nat.le_refl _,Nat.le_refl _⟩)
    (fun e vs T=>e= .normal∧vs=ji (cs.map (aE m)) (.arg m) ((cs.map (aE m)).length:Nat)∧T=s8 cs cs.length) (fun j hj=> ?_) 0 (Nat.zero_le _) K ?_
  rotate_left
  · rintro e vs T ⟨rfl,rfl,rfl⟩
    exact hK
  by_cases hlt:j<cs.length
  · have hr:=List.getElem?_eq_getElem hlt
    have hm:cs[j]∈cs:=List.getElem_mem hlt
    generalize cs[j]=c at hr hm
    refine bF ac aa (Ba (dN c)) ag (yn (cs.map (aE m)) (.arg m) (aK cs j).1 (aK cs j).2.1 (aK cs j).2.2 c.1.1 c.1.2 m c.2.1 c.2.2 (dN c) j _) ?_
    refine bp (decide_eq_true (by rw [hlen];omega)) ⟨mg.ix rfl (by simp [hr];rfl),⟨c.1,c.2.1,c.2.2,m,rfl,hp c hm,rfl⟩, ?_⟩
    rw [g7 (by omega)]
    have hv:av (au 1) (au 0) (ji (cs.map (aE m)) (.arg m) ((j+1:Nat):Int))=ji (cs.map (aE m)) (.arg m) ((j+1:Nat):Int):=by
      simp only [ji,av,TV.ren,kV,Tok.ren];rfl
    refine bq (fun hg=> ?_) (fun hg=> ?_)
    · refine ⟨rfl,rfl,j+1,hlt,by show cs.length-(j+1)<cs.length-j;omega, .inr ⟨?_,hv⟩⟩
      have k:=fun o=>uS cs (j+1) o
      rw [nU hr hg] at k
      exact k _
    · refine ⟨rfl,rfl,j+1,hlt,by show cs.length-(j+1)<cs.length-j;omega, .inr ⟨?_,hv⟩⟩
      have k:=fun o=>uS cs (j+1) o
      rw [pR hr hg] at k
      exact k _
  · obtain rfl:j=cs.length:=by omega
    refine bF ac aa (Ba true) ag (yn (cs.map (aE m)) (.arg m) (aK cs cs.length).1 (aK cs cs.length).2.1 (aK cs cs.length).2.2 0 0 m dj true true cs.length _) (aX (decide_eq_false (by rw [hlen];omega)) ?_)
    exact ⟨rfl,rfl,rfl,by simp only [ji,eF,hlen],rfl⟩
def aJ (cs:List Ch):Nat→List Ch
 | 0=> []
 | j+1=>match cs[j]? with
  | some c=>bif decide (fE cs cs.length c.1=some j) then aJ cs j++ [c] else aJ cs j
  | none=>aJ cs j
theorem j9 {cs:List Ch} {j:Nat} {c:Ch} (h:cs[j]?=some c):aJ cs (j+1)=bif decide (fE cs cs.length c.1=some j) then aJ cs j++ [c] else aJ cs j:=by
 simp only [aJ,h]
theorem mj {cs:List Ch}:∀j,(aJ cs j).length≤j
 | 0=>Nat.le_refl _
 | j+1=>by
  have:=mj (cs:=cs) j
  cases hc:cs[j]? with
  | none=>simp only [aJ,hc];omega
  | some c=>
   rw [j9 hc]
   cases decide (fE cs cs.length c.1=some j)
   ·simp only [cond_false];omega
   ·simp only [cond_true,List.length_append,List.length_cons,List.length_nil];omega
theorem uU {T:VT} {lk:gS} {es:gM} {ck id:Nat} {p:Px} (hid:T.objs[id]?=some (.map kP lk es ck)) (ok:Bool):cY Try.prog T 99 (.map id) (Gm p.1 p.2) ok=some (eM ok (lk (dC p)) (.int .i64 0)):=by
 have h:∀o:Option VO,o=some (.map kP lk es ck)→(match Try.prog.underlying 99,bM (Gm p.1 p.2) with
   | some (.map kt et),some kv=>match b7 Try.prog kt,Try.prog.info? et with
    | some sh,some i=>match i.zero with
     | some zz=>bif sh.fits kv then (match o with
       | some (.map sh' look _ _)=>bif e8 sh sh' then some (eM ok (look kv) zz) else none
       | _=>none) else none
     | none=>none
    | _,_=>none
   | _,_=>none)=some (eM ok (lk (dC p)) (.int .i64 0)):=by
  rintro _ rfl
  kernel_rfl
 exact h _ hid
theorem Cx {cs:List Ch} (hl:cs.length≤1000000) (m:Nat) (K:KX) (hK:K .normal (aq 54 np (eF (cs.map (aE m)) (.arg m) ((aJ cs cs.length).map (aE m)) ((cs.map (aE m)).length:Nat))) (iP (aK cs cs.length).1 (aK cs cs.length).2.1 (aK cs cs.length).2.2 ((aJ cs cs.length).map (aE m)).length) []):
    VWx Try.prog ae none 0 (ar Try.prog dD 2) (aq 54 np (eF (cs.map (aE m)) (.arg m) [] 0)) (iP (aK cs cs.length).1 (aK cs cs.length).2.1 (aK cs cs.length).2.2 0) [] K:=by
  have hlen:(cs.map (aE m)).length=cs.length:=List.length_map _
  refine di (f:=dD) (id:=2) (by kernel_rfl) 54 np (fun j:Nat=>cs.length-j) (fun j:Nat=>eF (cs.map (aE m)) (.arg m) ((aJ cs j).map (aE m)) (j:Int)) (fun j=>iP (aK cs cs.length).1 (aK cs cs.length).2.1 (aK cs cs.length).2.2 ((aJ cs j).map (aE m)).length) (fun j=>j≤cs.length) 1 1 (fun j _=>⟨Nat.le_refl _,Nat.le_refl _⟩)
    (fun e vs T=>e= .normal∧vs=eF (cs.map (aE m)) (.arg m) ((aJ cs cs.length).map (aE m)) ((cs.map (aE m)).length:Nat)∧T=iP (aK cs cs.length).1 (aK cs cs.length).2.1 (aK cs cs.length).2.2 ((aJ cs cs.length).map (aE m)).length) (fun j hj=> ?_) 0 (Nat.zero_le _) K ?_
  rotate_left
  · rintro e vs T ⟨rfl,rfl,rfl⟩
    exact hK
  by_cases hlt:j<cs.length
  · have hr:=List.getElem?_eq_getElem hlt
    generalize cs[j]=c at hr
    have hln:=mj (cs:=cs) j
    have hlm:((aJ cs j).map (aE m)).length=(aJ cs j).length:=List.length_map _
    refine bF ac aa ai ag (yp (cs.map (aE m)) ((aJ cs j).map (aE m)) ((aJ cs j).map (aE m)++ [aE m c]) (.arg m) (aK cs cs.length).1 (aK cs cs.length).2.1 (aK cs cs.length).2.2 c.1.1 c.1.2 (((fE cs cs.length c.1).getD 0:Nat):Int) m (((aJ cs j).map (aE m)).length+1) c.2.1 c.2.2 (fE cs cs.length c.1).isSome j [(((aJ cs j).map (aE m)).length+1,8,true)] _) ?_
    refine bp (decide_eq_true (by rw [hlen];omega)) ⟨mg.ix rfl (by simp [hr];rfl), ?_⟩
    have hv:∀l:List Ch,av (au 1) (au 1) (eF (cs.map (aE m)) (.arg m) (l.map (aE m)) ((j+1:Nat):Int))=eF (cs.map (aE m)) (.arg m) (l.map (aE m)) ((j+1:Nat):Int):=fun l=>by
      simp only [eF,av,TV.ren,kV,Tok.ren];rfl
    have hend:∀o,decide (fE cs cs.length c.1=some j)=false→oQ 54 2 (fun j:Nat=>cs.length-j) (fun j:Nat=>eF (cs.map (aE m)) (.arg m) ((aJ cs j).map (aE m)) (j:Int)) (fun j=>iP (aK cs cs.length).1 (aK cs cs.length).2.1 (aK cs cs.length).2.2 ((aJ cs j).map (aE m)).length) (fun j=>j≤cs.length) 1 1 j
        (fun e vs T=>e= .normal∧vs=eF (cs.map (aE m)) (.arg m) ((aJ cs cs.length).map (aE m)) ((cs.map (aE m)).length:Nat)∧T=iP (aK cs cs.length).1 (aK cs cs.length).2.1 (aK cs cs.length).2.2 ((aJ cs cs.length).map (aE m)).length)
        .normal (eF (cs.map (aE m)) (.arg m) ((aJ cs j).map (aE m)) (IntKind.wrap IntKind.i64 ((j:Int)+1))) ⟨.map kP (aK cs cs.length).1 (aK cs cs.length).2.1 (aK cs cs.length).2.2::o, [(((aJ cs j).map (aE m)).length,8,true)]⟩ [] 54:=fun o hd=>by
      rw [g7 (by omega)]
      have e:aJ cs (j+1)=aJ cs j:=by rw [j9 hr,hd];rfl
      refine ⟨rfl,rfl,j+1,hlt,by show cs.length-(j+1)<cs.length-j;omega, .inr ⟨?_, ?_⟩⟩
      · show _=iP _ _ _ ((aJ cs (j+1)).map (aE m)).length
        rw [e];exact uT cs _ _ o
      · show _=eF _ _ ((aJ cs (j+1)).map (aE m)) _
        rw [e];exact hv _
    cases hq:fE cs cs.length c.1 with
    | none=>
      refine ⟨o4 ((uU (T:=⟨[_,_],_⟩) (id:=0) (p:=c.1) rfl true).trans (by rw [mh,hq];rfl)), ?_⟩
      exact hend [_] (by rw [hq];rfl)
    | some i=>
      refine ⟨o4 ((uU (T:=⟨[_,_],_⟩) (id:=0) (p:=c.1) rfl true).trans (by rw [mh,hq];rfl)), ?_⟩
      refine bp rfl ?_
      rw [sq]
      refine bq (fun hd=> ?_) (fun hd=> ?_)
      · have hij:i=j:=by have:=of_decide_eq_true hd;simp only [Option.getD_some] at this;omega
        subst hij
        refine ⟨?_, ?_⟩
        · have h:=mg.app (G:=ae) (T:=⟨[.map kP (aK cs cs.length).1 (aK cs cs.length).2.1 (aK cs cs.length).2.2, .cells (aE m c)], [(((aJ cs i).map (aE m)).length,8,true)]⟩) (k:=0) (bn:=true) (es:=(aJ cs i).map (aE m)) (es2:= [aE m c]) (tok:= .full) (s:=46) (x:=48) rfl rfl (by simp only [List.length_map,List.length_cons,List.length_nil];omega)
          exact h
        · rw [g7 (by omega)]
          have e:aJ cs (i+1)=aJ cs i++ [c]:=by rw [j9 hr,hq];simp
          have e2:(aJ cs (i+1)).map (aE m)=(aJ cs i).map (aE m)++ [aE m c]:=by rw [e,List.map_append];rfl
          have e3:((aJ cs (i+1)).map (aE m)).length=((aJ cs i).map (aE m)).length+1:=by rw [e2];simp
          refine ⟨rfl,rfl,i+1,hlt,by show cs.length-(i+1)<cs.length-i;omega, .inr ⟨?_, ?_⟩⟩
          · show _=iP _ _ _ ((aJ cs (i+1)).map (aE m)).length
            rw [e3];exact uT cs _ _ _
          · have:=hv (aJ cs (i+1))
            unfold eF at this
            rw [e3,e2] at this
            show _=eF _ _ ((aJ cs (i+1)).map (aE m)) _
            unfold eF
            rw [e3,e2];exact this
      · refine hend [_] ?_
        rw [hq]
        refine decide_eq_false fun e=> ?_
        have:=of_decide_eq_false hd
        injection e with e
        simp only [Option.getD_some] at this
        omega
  · obtain rfl:j=cs.length:=by omega
    refine bF ac aa ai ag (yp (cs.map (aE m)) ((aJ cs cs.length).map (aE m)) [] (.arg m) (aK cs cs.length).1 (aK cs cs.length).2.1 (aK cs cs.length).2.2 0 0 0 m 0 dj true true cs.length [] _) (aX (decide_eq_false (by rw [hlen];omega)) ?_)
    exact ⟨rfl,rfl,rfl,by simp only [ji,eF,hlen],rfl⟩
end
section
open Go.RowKit Go.Shelf
set_option maxRecDepth 100000

def fe (cs:List Ch):List Px:=(aJ cs cs.length).map (·.1)
def wv (cs:List Ch) (p:Px):Option (AtV × Bool):=((fE cs cs.length p).bind fun i=>cs[i]?).map (·.2)
def ml (cs:List Ch) (p:Px):AtV × Bool:=(wv cs p).getD (dj,false)
def bh (cs:List Ch):List Ch:=(gC (fe cs)).map fun p=>(p,ml cs p)
theorem ka {cs:List Ch} {c:Ch}:∀{j},c∈aJ cs j ↔ ∃i,i<j∧cs[i]?=some c∧fE cs cs.length c.1=some i
 | 0=>⟨fun h=>(by cases h),fun ⟨i,h,_⟩=>absurd h (Nat.not_lt_zero i)⟩
 | j+1=>by
  have ih:=ka (cs:=cs) (c:=c) (j:=j)
  cases hc:cs[j]? with
  | none=>
   simp only [aJ,hc]
   rw [ih]
   constructor
   ·rintro ⟨i,h1,h2⟩;exact ⟨i,by omega,h2⟩
   ·rintro ⟨i,h1,h2⟩
    refine ⟨i,Classical.byContradiction fun hn=> ?_,h2⟩
    obtain rfl:i=j:=by omega
    rw [hc] at h2;cases h2.1
  | some d=>
   rw [j9 hc]
   cases hd:decide (fE cs cs.length d.1=some j) with
   | true=>
    rw [cond_true,List.mem_append,List.mem_singleton,ih]
    constructor
    ·rintro (⟨i,h1,h2⟩ | rfl)
     ·exact ⟨i,by omega,h2⟩
     ·exact ⟨j,by omega,hc,of_decide_eq_true hd⟩
    ·rintro ⟨i,h1,h2,h3⟩
     by_cases hij:i=j
     ·subst hij
      rw [hc] at h2;injection h2 with h2
      exact .inr h2.symm
     ·exact .inl ⟨i,by omega,h2,h3⟩
   | false=>
    rw [cond_false,ih]
    constructor
    ·rintro ⟨i,h1,h2⟩;exact ⟨i,by omega,h2⟩
    ·rintro ⟨i,h1,h2,h3⟩
     refine ⟨i,Classical.byContradiction fun hn=> ?_,h2,h3⟩
     obtain rfl:i=j:=by omega
     rw [hc] at h2;injection h2 with h2
     subst h2
     exact of_decide_eq_false hd h3
theorem tb {cs:List Ch}:∀j,((aJ cs j).map (·.1)).Nodup
 | 0=>List.nodup_nil
 | j+1=>by
  have ih:=tb (cs:=cs) j
  cases hc:cs[j]? with
  | none=>simp only [aJ,hc];exact ih
  | some d=>
   rw [j9 hc]
   cases hd:decide (fE cs cs.length d.1=some j) with
   | false=>exact ih
   | true=>
    rw [cond_true,List.map_append]
    refine List.nodup_append.2 ⟨ih,by simp,fun a ha b hb e=> ?_⟩
    simp only [List.map_cons,List.map_nil,List.mem_singleton] at hb
    subst hb
    obtain ⟨c,hc2,rfl⟩:=List.mem_map.1 ha
    obtain ⟨i,h1,h2,h3⟩:=ka.1 hc2
    rw [e,of_decide_eq_true hd] at h3
    injection h3 with h3
    omega
theorem ww (cs:List Ch):(fe cs).Nodup:=tb _
theorem pU {cs:List Ch} {c:Ch} (h:c∈aJ cs cs.length):wv cs c.1=some c.2:=by
 obtain ⟨i,h1,h2,h3⟩:=ka.1 h
 unfold wv
 rw [h3,Option.bind_some,h2];rfl
theorem FU (cs:List Ch):aJ cs cs.length=(fe cs).map fun p=>(p,ml cs p):=by
 unfold fe
 rw [List.map_map]
 conv=>lhs;rw [←List.map_id (aJ cs cs.length)]
 refine List.map_congr_left fun c hc=> ?_
 simp only [id_eq,Function.comp_apply,ml,pU hc,Option.getD_some]
theorem FV (m:Nat) (cs:List Ch):(aJ cs cs.length).map (aE m)=(fe cs).map (fP m (ml cs)):=by
 conv=>lhs;rw [FU]
 rw [List.map_map];rfl
theorem Cy (m:Nat) (cs:List Ch):(bh cs).map (aE m)=(gC (fe cs)).map (fP m (ml cs)):=by
 unfold bh
 rw [List.map_map];rfl
theorem Ax (m:Nat) (c:Ch):∀x∈aE m c,FreeM m x:=by
 intro x hx
 simp only [aE,qH,List.mem_cons,List.not_mem_nil,or_false] at hx
 rcases hx with rfl | rfl | rfl | rfl | rfl | rfl | rfl | rfl
 rotate_left 3
 ·refine FreeM.arg fun c hc=> ?_
  obtain ⟨l,hl,hc⟩:=List.mem_flatten.1 hc
  obtain ⟨z,_,rfl⟩:=List.mem_map.1 hl
  rw [List.mem_singleton.1 hc]
  exact .val _
 all_goals exact (FreeT.val _).toM
theorem Cz {T:VT} {tok:Tok}:VCx Try.prog ae 0 sY [.vec 8 [] tok, .fn (.func 57) [] []] T fun x T' =>x= .val (.tuple #[])∧T' =T:=by
 intro g w us r hG hx
 match us,hx.1 with
 | [u,f],_=>
  obtain ⟨us,vs,rfl,h3,h4⟩:=(hx.2 1 _ f rfl rfl).fn_inv
  have e3:us= []:=List.eq_nil_of_length_eq_zero h3.1
  have e4:vs= []:=List.eq_nil_of_length_eq_zero h4.1
  subst e3 e4
  have key:∀a c,u= .slice a 0 c→Calls Try.prog sY #[u, .func (.func 57) #[] #[]] w fun e w' =>∃v x g' T',e= .returned v∧(x= .val (.tuple #[])∧T' =T)∧Evo g w g' w' ∧RW g' T' w' ∧VR g' w' x v∧Fix 0 g T w T' w' :=fun a c he=>by
   subst he
   refine (AnyF.slices_SortFunc_none Try.sortCh a c _ w).mono fun e w' ⟨he,hw⟩=> ?_
   subst hw
   exact ⟨.tuple #[],_,g,_,he,⟨rfl,rfl⟩,Evo.refl _ _,r, .val _,⟨Nat.le_refl _,fun i hi=>absurd hi (Nat.not_lt_zero i),fun i o b hi=>absurd hi (Nat.not_lt_zero i)⟩⟩
  rcases (hx.2 0 _ u rfl rfl).vec_inv with ⟨rfl,_⟩ | ⟨b,o,c,us,rfl,h⟩ | ⟨a,rfl,_⟩
  ·exact key none 0 rfl
  ·exact key _ _ rfl
  ·exact key _ _ rfl
theorem CA:∀ro ys T K,Ej ro ys T K→VCx Try.prog ae ro sY ys T K:=by
 rintro ro ys T K ⟨⟨rfl,rfl⟩,hk⟩
 exact Cz.mono fun x T' ⟨h1,h2⟩=>by subst h1 h2;exact hk
section
variable {lk:gS} {es:gM} {ck:Nat}
theorem En {cs:List Ch} (hl:cs.length≤1000000) (m:Nat) (hr:∀f g,VO.ren f g (.map kP lk es ck)= .map kP lk es ck):∀ro ys T K,Gn (jF lk es ck ((aJ cs cs.length).map (aE m)).length ((aJ cs cs.length).map (aE m)).flatten) (jF lk es ck ((aJ cs cs.length).map (aE m)).length ((bh cs).map (aE m)).flatten) ((aJ cs cs.length).map (aE m)).length ro ys T K→VCx Try.prog ae ro sY ys T K:=by
 rintro ro ys T K ⟨⟨rfl,rfl,rfl⟩,hk⟩
 have hkl:(fe cs).length≤1000000:=by
  have:=mj (cs:=cs) cs.length
  unfold fe;rw [List.length_map];omega
 have hs:=yl (G:=ae) m (ml cs) (fe cs) (ww cs) (by omega)
 rw [←FV,←Cy,show (fe cs).length=((aJ cs cs.length).map (aE m)).length by simp [fe]] at hs
 have hfl:∀(l:List Ch) f g,av f g ((l.map (aE m)).flatten)=(l.map (aE m)).flatten:=fun l f g=>by
  have:=kV m f g l
  rw [br] at this
  rw [dJ,List.map_flatten,this]
 refine (VCx.lift (xs:= [.row 8 0 0 ((aJ cs cs.length).map (aE m)).length, .fn (.func 57) [] []]) [1] [] am (by simp) List.nodup_nil (fun k hk=> ?_) (by simp) (fun _ _=>Nat.zero_le _) rfl (T:=jF lk es ck ((aJ cs cs.length).map (aE m)).length ((aJ cs cs.length).map (aE m)).flatten) (Q:=fun x T' =>x= .val (.tuple #[])∧T' =⟨[.row ((bh cs).map (aE m)).flatten], []⟩) ?_ ?_).mono ?_
 ·rw [List.mem_singleton.1 hk];exact ⟨_,rfl,rfl⟩
 ·have e:VT.give (jF lk es ck ((aJ cs cs.length).map (aE m)).length ((aJ cs cs.length).map (aE m)).flatten) [1] []=⟨[.row ((aJ cs cs.length).map (aE m)).flatten], []⟩:=by
   simp only [VT.give,jF,List.map_cons,List.map_nil,List.getElem?_cons_zero,List.getElem?_cons_succ,Option.getD_some,VO.ren,hfl]
  rw [e];exact hs
 ·rintro x T' ⟨_,rfl⟩;exact ⟨Nat.le_refl _,Nat.zero_le _⟩
 ·rintro x T'' ⟨y,T',⟨rfl,rfl⟩,rfl,rfl⟩
  have e:VT.back (jF lk es ck ((aJ cs cs.length).map (aE m)).length ((aJ cs cs.length).map (aE m)).flatten) [1] [] ⟨[.row ((bh cs).map (aE m)).flatten], []⟩=jF lk es ck ((aJ cs cs.length).map (aE m)).length ((bh cs).map (aE m)).flatten:=by
   simp only [VT.back,jF,List.length_cons,List.length_nil,List.map_cons,List.map_nil,VO.ren,hfl,bK,List.append_nil]
   rfl
  rw [e];exact hk
end
theorem kW (cs:List Ch):(bh cs).length=(aJ cs cs.length).length:=by
 unfold bh fe;rw [List.length_map,yj,List.length_map]
theorem Eo {L:Bs} {m j:Nat} {σ:List TV} {T:VT} (h:pick np (b6 [(6,8)] σ T).1=eF L (.arg m) [] (j:Int)):σ[26]?=some (.vec 8 L (.arg m)):=by
 have h1:=congrArg (fun l:List TV=>l.getD 2 .dead) h
 simp only [pick,np,eF,b6,List.map_cons,List.getD_cons_succ,List.getD_cons_zero] at h1
 rw [List.getD_eq_getElem?_getD,List.getElem?_set_ne (by omega)] at h1
 cases hs:σ[26]? with
 | none=>rw [hs] at h1;cases h1
 | some x=>rw [hs] at h1;rw [←h1];rfl
theorem CB {cs:List Ch} (hl:cs.length≤1000000) (hp:∀c∈cs,c.2.1.p.length≤9223372036854775807) (m:Nat):VCx Try.prog ae 0 dD [.vec 8 (cs.map (aE m)) (.arg m)] ⟨[], []⟩ fun x T' =>x= .vec 8 ((bh cs).map (aE m)) .none∧T' =⟨[], []⟩:=by
  have hoa:=fun K hK=>Cw hl hp m K hK
  have hob:=fun K hK=>Cx hl m K hK
  by_cases hA:aJ cs cs.length= []
  · have hB:bh cs= []:=List.eq_nil_of_length_eq_zero (by rw [kW,hA];rfl)
    rw [hA] at hob
    refine VCx.keepQ 0 0 (Nat.le_refl _) (Nat.le_refl _) (ah ac aa (az fun p hp=> ?_) (bw fun p hp=> ?_) (Ek (cs.map (aE m)) (.arg m) (aK cs cs.length).1 (aK cs cs.length).2.1 (aK cs cs.length).2.2 _) ⟨rfl,⟨rfl,rfl,rfl,trivial,rfl,rfl,rfl⟩,rfl,⟨rfl,rfl,rfl,⟨rfl,trivial⟩,rfl,rfl,rfl⟩,⟨rfl,rfl⟩,by rw [hB];rfl,rfl⟩)
    · obtain rfl:=List.mem_singleton.1 hp;exact CA
    · rcases List.mem_cons.1 hp with rfl | hp
      · exact bL hoa
      · obtain rfl:=List.mem_singleton.1 hp
        exact bL hob
  · have hpos:0<((aJ cs cs.length).map (aE m)).length:=by rw [List.length_map];exact List.length_pos_iff.2 hA
    have hcs:cs.map (aE m)≠ []:=fun e=>by
      have h0:cs= []:=by simpa using e
      subst h0
      exact hA rfl
    have h1:VCx Try.prog ae 0 dD [.vec 8 (cs.map (aE m)) (.arg m)] ⟨[], []⟩ fun x T' =>x= .vec 8 ((bh cs).map (aE m)) .none∧True:=by
      refine VCx.freeze (Q:=fun _=>True) (ah ac aa (az fun p hp=> ?_) (bw fun p hp=> ?_) (El (cs.map (aE m)) ((aJ cs cs.length).map (aE m)) ((bh cs).map (aE m)) (.arg m) (aK cs cs.length).1 (aK cs cs.length).2.1 (aK cs cs.length).2.2 _) ⟨rfl,⟨rfl,rfl,rfl,trivial,rfl,rfl,rfl⟩,rfl,⟨rfl,rfl,rfl,⟨rfl,trivial⟩,rfl,rfl,rfl,rfl⟩,⟨rfl,rfl,rfl⟩,1,0,_,rfl, ?_,trivial⟩)
      · obtain rfl:=List.mem_singleton.1 hp;exact En hl m fun f g=>pT cs cs.length f g
      · rcases List.mem_cons.1 hp with rfl | hp
        · exact bL hoa
        · obtain rfl:=List.mem_singleton.1 hp
          refine tQ (m:=m) (vs1:=eF (cs.map (aE m)) (.arg m) ((aJ cs cs.length).map (aE m)) ((cs.map (aE m)).length:Nat)) rfl rfl hpos (fun g w σ us T hσ hpk=> ?_) (fun x hx=> ?_) (fun o ho=> ?_) hob
          · obtain ⟨u,_,hu⟩:=hσ.at (Eo (j:=0) hpk)
            generalize hL:cs.map (aE m)=L at hu hcs
            cases hu with
            | nil=>exact absurd rfl hcs
            | odd=>exact absurd rfl hcs
            | vec hn hc hz ht _ _ _ _ _=>
              rcases ht with h0 | h0
              · exact absurd (List.eq_nil_of_length_eq_zero h0) hcs
              · exact h0.2
          · obtain ⟨l,hl,hx⟩:=List.mem_flatten.1 hx
            obtain ⟨c,_,rfl⟩:=List.mem_map.1 hl
            exact Ax m c x hx
          · rw [List.mem_singleton.1 ho]
            intro e he
            obtain ⟨v,hv⟩:=(pS (cs:=cs) cs.length).2 e he
            rw [hv];exact .val v
      · rw [show ((aJ cs cs.length).map (aE m)).length=((bh cs).map (aE m)).length by rw [List.length_map,List.length_map,kW]]
        exact fN rfl fun e he=>by obtain ⟨c,_,rfl⟩:=List.mem_map.1 he;rfl
    refine VCx.keepQ 0 0 (Nat.le_refl _) (Nat.le_refl _) (h1.mono fun x T' ⟨hx,_⟩=> ?_)
    subst hx
    exact ⟨by simp only [TV.ren,kV,Tok.ren],rfl⟩
def aj (c:Ch):List TV:=gU c.1.1 c.1.2 c.2.1 c.2.2
theorem pV (c:Ch) (f g:Nat→Option Nat):av f g (aj c)=aj c:=by
 simp only [aj,gU,AtV.cells,List.cons_append,List.nil_append,av,TV.ren,dA,Tok.ren]
theorem bk (f g:Nat→Option Nat) (cs:List Ch):bf f g (cs.map aj)=cs.map aj:=eJ aj (fun a=>pV a f g) cs
theorem CC (m:Nat) (cs:List Ch) (tok:Tok):kU m [.vec 8 (cs.map aj) tok]= [.vec 8 (cs.map (aE m)) (.arg m)]:=by
 have h1:∀p:List Int,gD m (iV p)=iV p:=fun p=>by
  rw [fD,iV,List.map_map]
  exact List.map_congr_left fun z _=>rfl
 simp only [kU,nT]
 rw [fD,List.map_map]
 congr 2
 refine List.map_congr_left fun c _=> ?_
 simp only [Function.comp_apply,aj,gU,AtV.cells,List.cons_append,List.nil_append,List.map_cons,List.map_nil,nT,h1]
 rfl
theorem TVle.vecMap {α:Type} {size:Nat} {f g:α→List TV} (h:∀a,TVleL (f a) (g a)) (l:List α):TVle (.vec size (l.map f) .none) (.vec size (l.map g) .none):=by
  have hf:TVleL (l.map f).flatten (l.map g).flatten:=by
    induction l with
    | nil=>trivial
    | cons a l ih=>
      have:∀{x y u v:List TV},TVleL x y→TVleL u v→TVleL (x++u) (y++v):=by
        intro x
        induction x with
        | nil=>
          intro y u v h1 h2
          cases y with
          | nil=>exact h2
          | cons=>exact h1.elim
        | cons a x ih=>
          intro y u v h1 h2
          cases y with
          | nil=>exact h1.elim
          | cons b y=>exact ⟨h1.1,ih h1.2 h2⟩
      exact this (h a) ih
  intro gh w u hu
  rcases hu.vec_inv with ⟨rfl,he,_⟩ | ⟨b,o,c,us,rfl,f1,f2,f3,f4,f5,f6,f7,f8⟩ | ⟨a,rfl,he,_⟩
  · have:l= []:=by simpa using he
    subst this;exact .nil trivial
  · have hl:=hf.at.1
    refine .mk_vec (by simp) (by simpa using f1) f2 (fun e he=> ?_) trivial (hf.vrs f5) (fun j hj=>f6 j (by omega)) f7 f8
    obtain ⟨a,ha,rfl⟩:=List.mem_map.1 he
    rw [←(h a).at.1]
    exact f3 _ (List.mem_map_of_mem ha)
  · have:l= []:=by simpa using he
    subst this;exact .odd a trivial
theorem yr {cs:List Ch} (hl:cs.length≤1000000) (hp:∀c∈cs,c.2.1.p.length≤9223372036854775807) (tok:Tok):VCx Try.prog ae 0 dD [.vec 8 (cs.map aj) tok] ⟨[], []⟩ fun x T' =>x= .vec 8 ((bh cs).map aj) .none∧T' =⟨[], []⟩:=by
 refine VCx.toArg fun m=> ?_
 rw [CC]
 exact VCx.toLe ((CB hl hp m).mono fun x T' ⟨h1,h2⟩=>⟨by rw [h1];exact TVle.vecMap (f:=aE m) (g:=aj) (fun c:Ch=>yq c.1 m c.2.1 c.2.2) _,h2⟩)
end
section
open Go.RowKit

def cq:List Ch→UpV
 | []=>⟨[],dj, []⟩
 | c::l=>bif c.2.2 then ⟨(c::l).map (·.1),dj, []⟩ else ⟨[],c.2.1,(c::l).map (·.1)⟩
def jk (u:UpV):Int:=bif fC u then ((l9 u).length:Int) else 0
def bo (l:List Ch):Bool:=decide (jk (cq l)≤4077)
def jG (may:List Ch→Bool) (l:List Ch):Nat→Nat→Nat
 | 0,n=>n
 | f+1,n=>bif decide (n<l.length)&&may (l.take (n+1)) then jG may l f (n+1) else n
def bH (may:List Ch→Bool) (l:List Ch):Nat:=jG may l l.length 1
def c9 (may:List Ch→Bool):Nat→List Ch→List (List Ch)
 | 0,_=> []
 | f+1,l=>bif l.isEmpty then [] else l.take (bH may l)::c9 may f (l.drop (bH may l))
def aB (l:List Ch):List (List Ch):=c9 bo l.length l
def bC (l:List Ch):List UpV:=(aB l).map cq
def jm:Nat→List Ch→List UpV
 | 0,_=> []
 | _+1, []=> []
 | f+1,c::l=>bC ((c::l).filter fun x=>decide (x.2.1=c.2.1))++jm f ((c::l).filter fun x=> !decide (x.2.1=c.2.1))
def dO (cs:List Ch):List UpV:=bC ((bh cs).filter fun c=>c.2.2)++jm (bh cs).length ((bh cs).filter fun c=> !c.2.2)
structure CsOk (cs:List Ch):Prop where
 few:cs.length≤50000
 at' :∀c∈cs,c.2.1.p.length≤9223372036854775807∧0≤c.2.1.h∧c.2.1.h<4294967296
def Ay (L P:Bs):Prop:=∃cs:List Ch,L=cs.map aj∧cs.length≤1000000∧P=aD (cs.map (·.1))
def Az (L w:Bs) (x:AtV) (n:Bs):Prop:=∃cs:List Ch,L=cs.map aj∧cs≠ []∧cs.length≤1000000∧w=aD (cq cs).w∧x=(cq cs).a∧n=aD (cq cs).n
def Ep (L:Bs) (b:Bool):Prop:=∃cs:List Ch,L=cs.map aj∧cs≠ []∧CsOk cs∧b=bo cs
def Er (L C:Bs):Prop:=∃cs:List Ch,L=cs.map aj∧CsOk cs∧C=(aB cs).map fun l=> [.vec 8 (l.map aj) .none]
def Es (L A B:Bs):Prop:=∃cs:List Ch,L=cs.map aj∧cs.length≤1000000∧A=(cs.filter fun c=>c.2.2).map aj∧B=(cs.filter fun c=> !c.2.2).map aj
def Et (y:AtV) (L A B:Bs):Prop:=∃cs:List Ch,L=cs.map aj∧CsOk cs∧y.p.length≤9223372036854775807∧A=(cs.filter fun c=>decide (c.2.1=y)).map aj∧B=(cs.filter fun c=> !decide (c.2.1=y)).map aj
def wx (L U:Bs):Prop:=∃cs:List Ch,L=cs.map aj∧CsOk cs∧U=(bC cs).map UpV.cells
def Eu (L:Bs):Prop:=∃cs:List Ch,L=cs.map aj∧CsOk cs
def wy (L U:Bs):Prop:=∃cs:List Ch,(∀tok,TVle (.vec 8 L tok) (.vec 8 (cs.map aj) .none))∧CsOk cs∧U=(dO cs).map UpV.cells
def Ev (l:List TV) (b:Bool):Prop:=∃c:Ch,l=aj c∧b=c.2.2
def Ew (y l:List TV) (b:Bool):Prop:=∃(a:AtV) (c:Ch),y=a.cells∧l=aj c∧a.p.length≤9223372036854775807∧c.2.1.p.length≤9223372036854775807∧b=decide (c.2.1=a)
def Ex (l:List TV) (b:Bool):Prop:=∃u:UpV,l=u.cells∧jE u∧b=fC u
def Ey (l:List TV) (b:Bs):Prop:=∃u:UpV,l=u.cells∧jE u∧fC u=true∧b=l9 u
def Ez (l:List TV) (z:Int):Prop:=∃u:UpV,l=u.cells∧jE u∧z=jk u
end
section
open Go.RowKit

abbrev mm:=24
abbrev jn:=61
abbrev fW:=87
abbrev nq:=86
abbrev tc:=85
abbrev td:=88
abbrev e6:=59
abbrev te:=60
abbrev tf:=62
abbrev Bb:=29
abbrev Gp:=27
abbrev Gq:=66
abbrev Bc:=25
def EA (w:Bs) (x:AtV) (n:Bs):List TV:= [.vec 2 w .none]++x.cells++ [.vec 2 n .none]
def EB (l' :Bs):aO:=fun _ ys T K=>match ys with
 | [.vec 8 l _]=>Ay l l' ∧K (.vec 2 l' .none) T
 | _=>ap 84 default ys
def yu (w:Bs) (x:AtV) (n:Bs):aO:=fun _ ys T K=>match ys with
 | [.vec 8 l _]=>Az l w x n∧K (.agg (EA w x n)) T
 | _=>ap 84 default ys
def jp:VO:= .cells [.fn (.func tc) [] []]
def Bd (b:Bool):aO:=fun ro ys T K=>match ys with
 | [.vec 8 l _, .ptr i 0]=>((@Eq Bool (Nat.ble ro i) true)∧(@Eq (Option VO) (T.objs[i]?) (some jp))∧Ep l b)∧K (.val (.bool b)) T
 | _=>ap 84 default ys
def EC (c:Bs):aO:=fun ro ys T K=>match ys with
 | [.vec 8 l _, .fn (.func f) [] [.ptr i 0]]=>((@Eq Nat f td)∧(@Eq Bool (Nat.ble ro i) true)∧(@Eq (Option VO) (T.objs[i]?) (some jp))∧Er l c)∧K (.vec 1 c .none) T
 | _=>ap 84 default ys
def ED (a b:Bs):aO:=fun _ ys T K=>match ys with
 | [.vec 8 l _, .fn (.func f) [] []]=>((@Eq Nat f te)∧Es l a b)∧K (.tup [.vec 8 a .none, .vec 8 b .none]) T
 | _=>ap 84 default ys
def Be (y:AtV) (a b:Bs):aO:=fun ro ys T K=>match ys with
 | [.vec 8 l _, .fn (.func f) [] [.ptr i 0]]=>((@Eq Nat f tf)∧(@Eq Bool (Nat.ble ro i) true)∧(@Eq (Option VO) (T.objs[i]?) (some (.cells y.cells)))∧Et y l a b)∧K (.tup [.vec 8 a .none, .vec 8 b .none]) T
 | _=>ap 84 default ys
def EE (u:Bs):aO:=fun ro ys T K=>match ys with
 | [.vec 8 l _]=>((@Eq Nat ro 0)∧wx l u)∧K (.vec 7 u (.tail T.tails.length u.length)) {T with tails:=T.tails++ [(u.length,7,true)]}
 | _=>ap 84 default ys
def Bf (u:Bs):aO:=fun _ ys T K=>match ys with
 | [.vec 8 l _]=>wx l u∧K (.vec 7 u .none) T
 | _=>ap 84 default ys
def EF (R:Bs→Bs):aO:=fun _ ys T K=>match ys with
 | [.vec 8 l _]=>Eu l∧K (.vec 8 (R l) .none) T
 | _=>ap 84 default ys
def Bg (u:Bs):aO:=fun _ ys T K=>match ys with
 | [.vec 8 l _]=>wy l u∧K (.vec 7 u .none) T
 | _=>ap 84 default ys
def EG:aO:=fun _ ys T K=>match ys with
 | []=>K (.val (.bool true)) T
 | _=>ap 84 default ys
def EH (b:Bool):aO:=fun _ ys T K=>match ys with
 | [.agg l]=>Ex l b∧K (.val (.bool b)) T
 | _=>ap 84 default ys
def EI (b:Bs):aO:=fun _ ys T K=>match ys with
 | [.agg l]=>Ey l b∧K (.vec 1 b .none) T
 | _=>ap 84 default ys
def EJ (z:Int):aO:=fun _ ys T K=>match ys with
 | [.agg l]=>Ez l z∧K (.val (.int .i64 z)) T
 | _=>ap 84 default ys
def jq:TV:= .fn (.func te) [] []
def jr:TV:= .fn (.func tf) [] [.ptr 0 0]
def jt:List Nat:= [1,6,7,10,11,12]
def du (so:TV) (L:Bs) (tk:Tok) (a b:Bs) (j:Int):List TV:= [so, .vec 8 a (.tail 0 a.length), .vec 8 b (.tail 1 b.length), .vec 8 L tk, .val (.int .i64 L.length), .val (.int .i64 j)]
def fF (O:List VO) (a b:Nat):VT:=⟨O, [(a,8,true),(b,8,true)]⟩
def Gs (so:TV) (O:List VO) (L:Bs) (tk:Tok) (a b:Bs) (c:Code):Nat→Option (bP × Code):=cB [(0,dw 30 jt [(6,8),(7,8)] (du so L tk [] [] 0) (fF O 0 0) (fun K=>K .normal (aq 30 jt (du so L tk a b L.length)) (fF O a.length b.length) []),c)]
def wA (b:Bool):aO:=fun _ ys T K=>match ys with
 | [.agg l]=>Ev l b∧K (.val (.bool b)) T
 | _=>ap 84 default ys
def wB (y:List TV) (b:Bool):aO:=fun ro ys T K=>match ys with
 | [.agg l, .ptr i 0]=>((@Eq Bool (Nat.ble ro i) true)∧(@Eq (Option VO) (T.objs[i]?) (some (.cells y)))∧Ew y l b)∧K (.val (.bool b)) T
 | _=>ap 84 default ys
def tg:List Nat:= [3,6,7,8]
def nr (L:Bs) (tk:Tok) (p:Bs) (j:Int):List TV:= [.vec 2 p (.tail 0 p.length), .vec 8 L tk, .val (.int .i64 L.length), .val (.int .i64 j)]
def qK (n:Nat):VT:=⟨[], [(n,2,true)]⟩
def GS (L:Bs) (tk:Tok) (p:Bs) (c:Code):Nat→Option (bP × Code):=cB [(0,dw 19 tg [(3,2)] (nr L tk [] 0) (qK 0) (fun K=>K .normal (aq 19 tg (nr L tk p L.length)) (qK p.length) []),c)]
def uV:TV:= .fn (.func td) [] [.ptr 0 0]
def th:List Nat:= [0,1,5]
def o6 (l:Bs) (tk:Tok) (o:Bs):List TV:= [.vec 8 l tk,uV, .vec 1 o (.tail 0 o.length)]
def fQ (n:Nat):VT:=⟨[jp], [(n,1,true)]⟩
def GT (L:Bs) (tk:Tok) (o:Bs) (c:Code):Nat→Option (bP × Code):=cB [(0,dw 35 th [(5,1)] (o6 L tk []) (fQ 0) (fun K=>K .normal (aq 35 th (o6 [] tk o)) (fQ o.length) []),c)]
def ns:List Nat:= [0,1,5,6]
def mn (l:Bs) (tk:Tok) (o:Bs) (n:Int):List TV:= [.vec 8 l tk,uV, .vec 1 o (.tail 0 o.length), .val (.int .i64 n)]
def GU (l:Bs) (tk:Tok) (o:Bs) (n:Nat) (c:Code):Nat→Option (bP × Code):=cB [(2,dw 35 ns [] (mn l tk o 1) (fQ o.length) (fun K=>K .normal (aq 35 ns (mn l tk o n)) (fQ o.length) []),c)]
def qL:List Nat:= [3,4,9,10,11]
def mo (C u:Bs) (j:Int):List TV:= [.ptr 0 0, .vec 7 u (.tail 0 u.length), .vec 1 C .none, .val (.int .i64 C.length), .val (.int .i64 j)]
def o7 (n:Nat):VT:=⟨[jp], [(n,7,true)]⟩
def GV (C u:Bs) (c:Code):Nat→Option (bP × Code):=cB [(0,dw 23 qL [(4,7)] (mo C [] 0) (o7 0) (fun K=>K .normal (aq 23 qL (mo C u C.length)) (o7 u.length) []),c)]
def ti:List Nat:= [4,5]
def o8 (l u:Bs):List TV:= [.vec 8 l .none, .vec 7 u (.tail 0 u.length)]
def qM (n:Nat):VT:=⟨[], [(n,7,true)]⟩
def GW (l u0 u:Bs) (c:Code):Nat→Option (bP × Code):=cB [(0,dw 34 ti [] (o8 l u0) (qM u0.length) (fun K=>K .normal (aq 34 ti (o8 [] u)) (qM u.length) []),c)]
theorem EK (a n:Int) (x:AtV) (g:Bool) (Q:TV→VT→Prop):an Try.prog ae bc (aV [(999998, .dead,none)]) 300 ay 0 te [.agg (gU a n x g)] ⟨[], []⟩ Q=
Q (.val (.bool (g))) ⟨[(.cells [(.val (.int .u32 (a))),(.val (.int .i64 (n))),(.val (.int .i64 (AtV.o x))),(.vec 1 (iV (AtV.p x)) .none),(.val (.int .u32 (AtV.h x))),(.val (.int .i64 (AtV.m x))),(.val (.bool (AtV.hm x))),(.val (.bool (g)))])], []⟩:=by kernel_rfl
theorem EL (a n:Int) (x y:AtV) (g ok:Bool) (Q:TV→VT→Prop):an Try.prog ae (aw [(nm,A2 ok)]) (aV [(999998, .dead,none)]) 300 ay 0 tf [.agg (gU a n x g), .ptr 0 0] ⟨[.cells y.cells], []⟩ Q=
 (DN [(.val (.int .i64 (AtV.o x))),(.vec 1 (iV (AtV.p x)) .none),(.val (.int .u32 (AtV.h x))),(.val (.int .i64 (AtV.m x))),(.val (.bool (AtV.hm x)))] [(.val (.int .i64 (AtV.o y))),(.vec 1 (iV (AtV.p y)) .none),(.val (.int .u32 (AtV.h y))),(.val (.int .i64 (AtV.m y))),(.val (.bool (AtV.hm y)))] (ok)∧
 Q (.val (.bool (ok))) ⟨[(.cells [(.val (.int .i64 (AtV.o y))),(.vec 1 (iV (AtV.p y)) .none),(.val (.int .u32 (AtV.h y))),(.val (.int .i64 (AtV.m y))),(.val (.bool (AtV.hm y)))]),(.cells [(.val (.int .u32 (a))),(.val (.int .i64 (n))),(.val (.int .i64 (AtV.o x))),(.vec 1 (iV (AtV.p x)) .none),(.val (.int .u32 (AtV.h x))),(.val (.int .i64 (AtV.m x))),(.val (.bool (AtV.hm x))),(.val (.bool (g)))])], []⟩):=by kernel_rfl
theorem EM (L a b:Bs) (tk:Tok) (Q:TV→VT→Prop):an Try.prog ae bc (aV [(999998, .dead,none)]) 300 (Gs jq [] L tk a b (ar Try.prog e6 0)) 0 e6 [.vec 8 L tk,jq] ⟨[], []⟩ Q=
 ((ar Try.prog e6 (0:Nat)=ar Try.prog e6 (0:Nat))∧
 (((@Eq (Option Nat) .none .none)∧
 ((@Eq (Nat) 0 0)∧
 ((@Eq (List Nat) [] [])∧
 (((@Eq (Option TV) (.some (.val (.slice .none 0 0))) (.some (.val (.slice .none 0 0))))∧
 ((@Eq (Option TV) (.some (.val (.slice .none 0 0))) (.some (.val (.slice .none 0 0))))∧
 True))∧
 ((@Eq (VT) ⟨[], [(0,(8,true)),(0,(8,true))]⟩ ⟨[], [(0,(8,true)),(0,(8,true))]⟩)∧
 ((@Eq (Bool) true true)∧
 (@Eq (List TV) [(.fn (.func 60) [] []),(.vec 8 [] (.tail 0 0)),(.vec 8 [] (.tail 1 0)),(.vec 8 (L) (tk)),(.val (.int .i64 ((↑(List.length L):Int)))),(.val (.int .i64 0))] [(.fn (.func 60) [] []),(.vec 8 [] (.tail 0 0)),(.vec 8 [] (.tail 1 0)),(.vec 8 (L) (tk)),(.val (.int .i64 ((↑(List.length L):Int)))),(.val (.int .i64 0))])))))))∧
 Q (.tup [(.vec 8 (a) (.tail 0 (List.length a))),(.vec 8 (b) (.tail 1 (List.length b)))]) ⟨[], [((List.length a),(8,true)),((List.length b),(8,true))]⟩)):=by kernel_rfl
theorem yv (L a b a2 b2:Bs) (tk:Tok) (z n:Int) (x:AtV) (g ok:Bool) (j k2 k3:Nat) (tl2 tl3:oT) (Q:Exit→List TV→VT→List Nat→Nat→Prop):vx Try.prog ae (aw [(te,wA ok)]) (aV [(999998, .dead,none),(14, .elt (gU z n x g),none),(22, .vec 8 a2 (.tail 0 k2),some fun T=>{T with tails:=tl2}),(26, .vec 8 b2 (.tail 1 k3),some fun T=>{T with tails:=tl3})]) 300 ay none 0 (cp Try.prog e6 0) (aq 30 jt (du jq L tk a b j)) (fF [] a.length b.length) [] (cQ jt Q)=
 (bif decide ((↑j:Int)<(↑(List.length L):Int))
 then (aU Try.prog (fun _=> .none) (.indexAddr 48 (.tmp 10) (.tmp 12)) [(10,(.vec 8 (L) (tk))),(12,(.val (.int .i64 ((↑j:Int)))))] (.elt [(.val (.int .u32 (z))),(.val (.int .i64 (n))),(.val (.int .i64 (AtV.o x))),(.vec 1 (iV (AtV.p x)) .none),(.val (.int .u32 (AtV.h x))),(.val (.int .i64 (AtV.m x))),(.val (.bool (AtV.hm x))),(.val (.bool (g)))])∧
 (Ev [(.val (.int .u32 (z))),(.val (.int .i64 (n))),(.val (.int .i64 (AtV.o x))),(.vec 1 (iV (AtV.p x)) .none),(.val (.int .u32 (AtV.h x))),(.val (.int .i64 (AtV.m x))),(.val (.bool (AtV.hm x))),(.val (.bool (g)))] (ok)∧
 (bif ok
 then (aW Try.prog (fun _=> .none) 0 ⟨[(.cells [(.val (.int .u32 (z))),(.val (.int .i64 (n))),(.val (.int .i64 (AtV.o x))),(.vec 1 (iV (AtV.p x)) .none),(.val (.int .u32 (AtV.h x))),(.val (.int .i64 (AtV.m x))),(.val (.bool (AtV.hm x))),(.val (.bool (g)))])], [((List.length a),(8,true)),((List.length b),(8,true))]⟩ (.call ⟨(.builtin .append), #[(.tmp 19),(.tmp 21)], #[48,48]⟩) [(19,(.vec 8 (a) (.tail 0 (List.length a)))),(21,(.vec 8 [[(.val (.int .u32 (z))),(.val (.int .i64 (n))),(.val (.int .i64 (AtV.o x))),(.vec 1 (iV (AtV.p x)) .none),(.val (.int .u32 (AtV.h x))),(.val (.int .i64 (AtV.m x))),(.val (.bool (AtV.hm x))),(.val (.bool (g)))]] .full))] (.vec 8 (a2) (.tail 0 (k2))) ⟨[(.cells [(.val (.int .u32 (z))),(.val (.int .i64 (n))),(.val (.int .i64 (AtV.o x))),(.vec 1 (iV (AtV.p x)) .none),(.val (.int .u32 (AtV.h x))),(.val (.int .i64 (AtV.m x))),(.val (.bool (AtV.hm x))),(.val (.bool (g)))])],(tl2)⟩∧
 Q .normal [(.fn (.func 60) [] []),(.vec 8 (a2) (.tail 0 (k2))),(.vec 8 (b) (.tail 1 (List.length b))),(.vec 8 (L) (tk)),(.val (.int .i64 ((↑(List.length L):Int)))),(.val (.int .i64 (IntKind.wrap IntKind.i64 ((↑j:Int)+(1:Int)))))] ⟨[(.cells [(.val (.int .u32 (z))),(.val (.int .i64 (n))),(.val (.int .i64 (AtV.o x))),(.vec 1 (iV (AtV.p x)) .none),(.val (.int .u32 (AtV.h x))),(.val (.int .i64 (AtV.m x))),(.val (.bool (AtV.hm x))),(.val (.bool (g)))])],(tl2)⟩ [] 30)
 else (aW Try.prog (fun _=> .none) 0 ⟨[(.cells [(.val (.int .u32 (z))),(.val (.int .i64 (n))),(.val (.int .i64 (AtV.o x))),(.vec 1 (iV (AtV.p x)) .none),(.val (.int .u32 (AtV.h x))),(.val (.int .i64 (AtV.m x))),(.val (.bool (AtV.hm x))),(.val (.bool (g)))])], [((List.length a),(8,true)),((List.length b),(8,true))]⟩ (.call ⟨(.builtin .append), #[(.tmp 23),(.tmp 25)], #[48,48]⟩) [(23,(.vec 8 (b) (.tail 1 (List.length b)))),(25,(.vec 8 [[(.val (.int .u32 (z))),(.val (.int .i64 (n))),(.val (.int .i64 (AtV.o x))),(.vec 1 (iV (AtV.p x)) .none),(.val (.int .u32 (AtV.h x))),(.val (.int .i64 (AtV.m x))),(.val (.bool (AtV.hm x))),(.val (.bool (g)))]] .full))] (.vec 8 (b2) (.tail 1 (k3))) ⟨[(.cells [(.val (.int .u32 (z))),(.val (.int .i64 (n))),(.val (.int .i64 (AtV.o x))),(.vec 1 (iV (AtV.p x)) .none),(.val (.int .u32 (AtV.h x))),(.val (.int .i64 (AtV.m x))),(.val (.bool (AtV.hm x))),(.val (.bool (g)))])],(tl3)⟩∧
 Q .normal [(.fn (.func 60) [] []),(.vec 8 (a) (.tail 0 (List.length a))),(.vec 8 (b2) (.tail 1 (k3))),(.vec 8 (L) (tk)),(.val (.int .i64 ((↑(List.length L):Int)))),(.val (.int .i64 (IntKind.wrap IntKind.i64 ((↑j:Int)+(1:Int)))))] ⟨[(.cells [(.val (.int .u32 (z))),(.val (.int .i64 (n))),(.val (.int .i64 (AtV.o x))),(.vec 1 (iV (AtV.p x)) .none),(.val (.int .u32 (AtV.h x))),(.val (.int .i64 (AtV.m x))),(.val (.bool (AtV.hm x))),(.val (.bool (g)))])],(tl3)⟩ [] 30))))
 else Q (.exit 0) [(.fn (.func 60) [] []),(.vec 8 (a) (.tail 0 (List.length a))),(.vec 8 (b) (.tail 1 (List.length b))),(.vec 8 (L) (tk)),(.val (.int .i64 ((↑(List.length L):Int)))),(.val (.int .i64 ((↑j:Int))))] ⟨[], [((List.length a),(8,true)),((List.length b),(8,true))]⟩ [] 30):=by kernel_rfl
theorem EN (y:AtV) (L a b:Bs) (tk:Tok) (Q:TV→VT→Prop):an Try.prog ae bc (aV [(999998, .dead,none)]) 300 (Gs jr [.cells y.cells] L tk a b (ar Try.prog e6 0)) 0 e6 [.vec 8 L tk,jr] ⟨[.cells y.cells], []⟩ Q=
 ((ar Try.prog e6 (0:Nat)=ar Try.prog e6 (0:Nat))∧
 (((@Eq (Option Nat) .none .none)∧
 ((@Eq (Nat) 0 0)∧
 ((@Eq (List Nat) [] [])∧
 (((@Eq (Option TV) (.some (.val (.slice .none 0 0))) (.some (.val (.slice .none 0 0))))∧
 ((@Eq (Option TV) (.some (.val (.slice .none 0 0))) (.some (.val (.slice .none 0 0))))∧
 True))∧
 ((@Eq (VT) ⟨[(.cells [(.val (.int .i64 (AtV.o y))),(.vec 1 (iV (AtV.p y)) .none),(.val (.int .u32 (AtV.h y))),(.val (.int .i64 (AtV.m y))),(.val (.bool (AtV.hm y)))])], [(0,(8,true)),(0,(8,true))]⟩ ⟨[(.cells [(.val (.int .i64 (AtV.o y))),(.vec 1 (iV (AtV.p y)) .none),(.val (.int .u32 (AtV.h y))),(.val (.int .i64 (AtV.m y))),(.val (.bool (AtV.hm y)))])], [(0,(8,true)),(0,(8,true))]⟩)∧
 ((@Eq (Bool) true true)∧
 (@Eq (List TV) [(.fn (.func 62) [] [(.ptr 0 0)]),(.vec 8 [] (.tail 0 0)),(.vec 8 [] (.tail 1 0)),(.vec 8 (L) (tk)),(.val (.int .i64 ((↑(List.length L):Int)))),(.val (.int .i64 0))] [(.fn (.func 62) [] [(.ptr 0 0)]),(.vec 8 [] (.tail 0 0)),(.vec 8 [] (.tail 1 0)),(.vec 8 (L) (tk)),(.val (.int .i64 ((↑(List.length L):Int)))),(.val (.int .i64 0))])))))))∧
 Q (.tup [(.vec 8 (a) (.tail 0 (List.length a))),(.vec 8 (b) (.tail 1 (List.length b)))]) ⟨[(.cells [(.val (.int .i64 (AtV.o y))),(.vec 1 (iV (AtV.p y)) .none),(.val (.int .u32 (AtV.h y))),(.val (.int .i64 (AtV.m y))),(.val (.bool (AtV.hm y)))])], [((List.length a),(8,true)),((List.length b),(8,true))]⟩)):=by kernel_rfl
theorem yw (y:AtV) (L a b a2 b2:Bs) (tk:Tok) (z n:Int) (x:AtV) (g ok:Bool) (j k2 k3:Nat) (tl2 tl3:oT) (Q:Exit→List TV→VT→List Nat→Nat→Prop):vx Try.prog ae (aw [(tf,wB y.cells ok)]) (aV [(999998, .dead,none),(14, .elt (gU z n x g),none),(22, .vec 8 a2 (.tail 0 k2),some fun T=>{T with tails:=tl2}),(26, .vec 8 b2 (.tail 1 k3),some fun T=>{T with tails:=tl3})]) 300 ay none 0 (cp Try.prog e6 0) (aq 30 jt (du jr L tk a b j)) (fF [.cells y.cells] a.length b.length) [] (cQ jt Q)=
 (bif decide ((↑j:Int)<(↑(List.length L):Int))
 then (aU Try.prog (fun _=> .none) (.indexAddr 48 (.tmp 10) (.tmp 12)) [(10,(.vec 8 (L) (tk))),(12,(.val (.int .i64 ((↑j:Int)))))] (.elt [(.val (.int .u32 (z))),(.val (.int .i64 (n))),(.val (.int .i64 (AtV.o x))),(.vec 1 (iV (AtV.p x)) .none),(.val (.int .u32 (AtV.h x))),(.val (.int .i64 (AtV.m x))),(.val (.bool (AtV.hm x))),(.val (.bool (g)))])∧
 (((@Eq (Bool) true true)∧
 ((@Eq (Option VO) (.some (.cells [(.val (.int .i64 (AtV.o y))),(.vec 1 (iV (AtV.p y)) .none),(.val (.int .u32 (AtV.h y))),(.val (.int .i64 (AtV.m y))),(.val (.bool (AtV.hm y)))])) (.some (.cells [(.val (.int .i64 (AtV.o y))),(.vec 1 (iV (AtV.p y)) .none),(.val (.int .u32 (AtV.h y))),(.val (.int .i64 (AtV.m y))),(.val (.bool (AtV.hm y)))])))∧
 Ew [(.val (.int .i64 (AtV.o y))),(.vec 1 (iV (AtV.p y)) .none),(.val (.int .u32 (AtV.h y))),(.val (.int .i64 (AtV.m y))),(.val (.bool (AtV.hm y)))] [(.val (.int .u32 (z))),(.val (.int .i64 (n))),(.val (.int .i64 (AtV.o x))),(.vec 1 (iV (AtV.p x)) .none),(.val (.int .u32 (AtV.h x))),(.val (.int .i64 (AtV.m x))),(.val (.bool (AtV.hm x))),(.val (.bool (g)))] (ok)))∧
 (bif ok
 then (aW Try.prog (fun _=> .none) 0 ⟨[(.cells [(.val (.int .i64 (AtV.o y))),(.vec 1 (iV (AtV.p y)) .none),(.val (.int .u32 (AtV.h y))),(.val (.int .i64 (AtV.m y))),(.val (.bool (AtV.hm y)))]),(.cells [(.val (.int .u32 (z))),(.val (.int .i64 (n))),(.val (.int .i64 (AtV.o x))),(.vec 1 (iV (AtV.p x)) .none),(.val (.int .u32 (AtV.h x))),(.val (.int .i64 (AtV.m x))),(.val (.bool (AtV.hm x))),(.val (.bool (g)))])], [((List.length a),(8,true)),((List.length b),(8,true))]⟩ (.call ⟨(.builtin .append), #[(.tmp 19),(.tmp 21)], #[48,48]⟩) [(19,(.vec 8 (a) (.tail 0 (List.length a)))),(21,(.vec 8 [[(.val (.int .u32 (z))),(.val (.int .i64 (n))),(.val (.int .i64 (AtV.o x))),(.vec 1 (iV (AtV.p x)) .none),(.val (.int .u32 (AtV.h x))),(.val (.int .i64 (AtV.m x))),(.val (.bool (AtV.hm x))),(.val (.bool (g)))]] .full))] (.vec 8 (a2) (.tail 0 (k2))) ⟨[(.cells [(.val (.int .i64 (AtV.o y))),(.vec 1 (iV (AtV.p y)) .none),(.val (.int .u32 (AtV.h y))),(.val (.int .i64 (AtV.m y))),(.val (.bool (AtV.hm y)))]),(.cells [(.val (.int .u32 (z))),(.val (.int .i64 (n))),(.val (.int .i64 (AtV.o x))),(.vec 1 (iV (AtV.p x)) .none),(.val (.int .u32 (AtV.h x))),(.val (.int .i64 (AtV.m x))),(.val (.bool (AtV.hm x))),(.val (.bool (g)))])],(tl2)⟩∧
 Q .normal [(.fn (.func 62) [] [(.ptr 0 0)]),(.vec 8 (a2) (.tail 0 (k2))),(.vec 8 (b) (.tail 1 (List.length b))),(.vec 8 (L) (tk)),(.val (.int .i64 ((↑(List.length L):Int)))),(.val (.int .i64 (IntKind.wrap IntKind.i64 ((↑j:Int)+(1:Int)))))] ⟨[(.cells [(.val (.int .i64 (AtV.o y))),(.vec 1 (iV (AtV.p y)) .none),(.val (.int .u32 (AtV.h y))),(.val (.int .i64 (AtV.m y))),(.val (.bool (AtV.hm y)))]),(.cells [(.val (.int .u32 (z))),(.val (.int .i64 (n))),(.val (.int .i64 (AtV.o x))),(.vec 1 (iV (AtV.p x)) .none),(.val (.int .u32 (AtV.h x))),(.val (.int .i64 (AtV.m x))),(.val (.bool (AtV.hm x))),(.val (.bool (g)))])],(tl2)⟩ [] 30)
 else (aW Try.prog (fun _=> .none) 0 ⟨[(.cells [(.val (.int .i64 (AtV.o y))),(.vec 1 (iV (AtV.p y)) .none),(.val (.int .u32 (AtV.h y))),(.val (.int .i64 (AtV.m y))),(.val (.bool (AtV.hm y)))]),(.cells [(.val (.int .u32 (z))),(.val (.int .i64 (n))),(.val (.int .i64 (AtV.o x))),(.vec 1 (iV (AtV.p x)) .none),(.val (.int .u32 (AtV.h x))),(.val (.int .i64 (AtV.m x))),(.val (.bool (AtV.hm x))),(.val (.bool (g)))])], [((List.length a),(8,true)),((List.length b),(8,true))]⟩ (.call ⟨(.builtin .append), #[(.tmp 23),(.tmp 25)], #[48,48]⟩) [(23,(.vec 8 (b) (.tail 1 (List.length b)))),(25,(.vec 8 [[(.val (.int .u32 (z))),(.val (.int .i64 (n))),(.val (.int .i64 (AtV.o x))),(.vec 1 (iV (AtV.p x)) .none),(.val (.int .u32 (AtV.h x))),(.val (.int .i64 (AtV.m x))),(.val (.bool (AtV.hm x))),(.val (.bool (g)))]] .full))] (.vec 8 (b2) (.tail 1 (k3))) ⟨[(.cells [(.val (.int .i64 (AtV.o y))),(.vec 1 (iV (AtV.p y)) .none),(.val (.int .u32 (AtV.h y))),(.val (.int .i64 (AtV.m y))),(.val (.bool (AtV.hm y)))]),(.cells [(.val (.int .u32 (z))),(.val (.int .i64 (n))),(.val (.int .i64 (AtV.o x))),(.vec 1 (iV (AtV.p x)) .none),(.val (.int .u32 (AtV.h x))),(.val (.int .i64 (AtV.m x))),(.val (.bool (AtV.hm x))),(.val (.bool (g)))])],(tl3)⟩∧
 Q .normal [(.fn (.func 62) [] [(.ptr 0 0)]),(.vec 8 (a) (.tail 0 (List.length a))),(.vec 8 (b2) (.tail 1 (k3))),(.vec 8 (L) (tk)),(.val (.int .i64 ((↑(List.length L):Int)))),(.val (.int .i64 (IntKind.wrap IntKind.i64 ((↑j:Int)+(1:Int)))))] ⟨[(.cells [(.val (.int .i64 (AtV.o y))),(.vec 1 (iV (AtV.p y)) .none),(.val (.int .u32 (AtV.h y))),(.val (.int .i64 (AtV.m y))),(.val (.bool (AtV.hm y)))]),(.cells [(.val (.int .u32 (z))),(.val (.int .i64 (n))),(.val (.int .i64 (AtV.o x))),(.vec 1 (iV (AtV.p x)) .none),(.val (.int .u32 (AtV.h x))),(.val (.int .i64 (AtV.m x))),(.val (.bool (AtV.hm x))),(.val (.bool (g)))])],(tl3)⟩ [] 30))))
 else Q (.exit 0) [(.fn (.func 62) [] [(.ptr 0 0)]),(.vec 8 (a) (.tail 0 (List.length a))),(.vec 8 (b) (.tail 1 (List.length b))),(.vec 8 (L) (tk)),(.val (.int .i64 ((↑(List.length L):Int)))),(.val (.int .i64 ((↑j:Int))))] ⟨[(.cells [(.val (.int .i64 (AtV.o y))),(.vec 1 (iV (AtV.p y)) .none),(.val (.int .u32 (AtV.h y))),(.val (.int .i64 (AtV.m y))),(.val (.bool (AtV.hm y)))])], [((List.length a),(8,true)),((List.length b),(8,true))]⟩ [] 30):=by kernel_rfl
theorem FW (L p:Bs) (tk:Tok) (Q:TV→VT→Prop):an Try.prog ae bc (aV [(999998, .dead,none)]) 300 (GS L tk p (ar Try.prog nq 0)) 0 nq [.vec 8 L tk] ⟨[], []⟩ Q=
 ((ar Try.prog nq (0:Nat)=ar Try.prog nq (0:Nat))∧
 (((@Eq (Option Nat) .none .none)∧
 ((@Eq (Nat) 0 0)∧
 ((@Eq (List Nat) [] [])∧
 (((@Eq (Option TV) (.some (.val (.slice .none 0 0))) (.some (.val (.slice .none 0 0))))∧
 True)∧
 ((@Eq (VT) ⟨[], [(0,(2,true))]⟩ ⟨[], [(0,(2,true))]⟩)∧
 ((@Eq (Bool) true true)∧
 (@Eq (List TV) [(.vec 2 [] (.tail 0 0)),(.vec 8 (L) (tk)),(.val (.int .i64 ((↑(List.length L):Int)))),(.val (.int .i64 0))] [(.vec 2 [] (.tail 0 0)),(.vec 8 (L) (tk)),(.val (.int .i64 ((↑(List.length L):Int)))),(.val (.int .i64 0))])))))))∧
 Q (.vec 2 (p) (.tail 0 (List.length p))) ⟨[], [((List.length p),(2,true))]⟩)):=by kernel_rfl
theorem yx (L p p2:Bs) (tk:Tok) (z n:Int) (x:AtV) (g:Bool) (j k2:Nat) (tl2:oT) (Q:Exit→List TV→VT→List Nat→Nat→Prop):vx Try.prog ae bc (aV [(999998, .dead,none),(10, .elt (gU z n x g),none),(16, .vec 2 p2 (.tail 0 k2),some fun T=>{T with tails:=tl2})]) 300 ay none 0 (cp Try.prog nq 0) (aq 19 tg (nr L tk p j)) (qK p.length) [] (cQ tg Q)=
 (bif decide ((↑j:Int)<(↑(List.length L):Int))
 then (aU Try.prog (fun _=> .none) (.indexAddr 48 (.tmp 6) (.tmp 8)) [(6,(.vec 8 (L) (tk))),(8,(.val (.int .i64 ((↑j:Int)))))] (.elt [(.val (.int .u32 (z))),(.val (.int .i64 (n))),(.val (.int .i64 (AtV.o x))),(.vec 1 (iV (AtV.p x)) .none),(.val (.int .u32 (AtV.h x))),(.val (.int .i64 (AtV.m x))),(.val (.bool (AtV.hm x))),(.val (.bool (g)))])∧
 (aW Try.prog (fun _=> .none) 0 ⟨[(.cells [(.val (.int .u32 (z))),(.val (.int .i64 (n))),(.val (.int .i64 (AtV.o x))),(.vec 1 (iV (AtV.p x)) .none),(.val (.int .u32 (AtV.h x))),(.val (.int .i64 (AtV.m x))),(.val (.bool (AtV.hm x))),(.val (.bool (g)))])], [((List.length p),(2,true))]⟩ (.call ⟨(.builtin .append), #[(.tmp 12),(.tmp 15)], #[42,42]⟩) [(12,(.vec 2 (p) (.tail 0 (List.length p)))),(15,(.vec 2 [[(.val (.int .u32 (z))),(.val (.int .i64 (n)))]] .full))] (.vec 2 (p2) (.tail 0 (k2))) ⟨[(.cells [(.val (.int .u32 (z))),(.val (.int .i64 (n))),(.val (.int .i64 (AtV.o x))),(.vec 1 (iV (AtV.p x)) .none),(.val (.int .u32 (AtV.h x))),(.val (.int .i64 (AtV.m x))),(.val (.bool (AtV.hm x))),(.val (.bool (g)))])],(tl2)⟩∧
 Q .normal [(.vec 2 (p2) (.tail 0 (k2))),(.vec 8 (L) (tk)),(.val (.int .i64 ((↑(List.length L):Int)))),(.val (.int .i64 (IntKind.wrap IntKind.i64 ((↑j:Int)+(1:Int)))))] ⟨[(.cells [(.val (.int .u32 (z))),(.val (.int .i64 (n))),(.val (.int .i64 (AtV.o x))),(.vec 1 (iV (AtV.p x)) .none),(.val (.int .u32 (AtV.h x))),(.val (.int .i64 (AtV.m x))),(.val (.bool (AtV.hm x))),(.val (.bool (g)))])],(tl2)⟩ [] 19))
 else Q (.exit 0) [(.vec 2 (p) (.tail 0 (List.length p))),(.vec 8 (L) (tk)),(.val (.int .i64 ((↑(List.length L):Int)))),(.val (.int .i64 ((↑j:Int))))] ⟨[], [((List.length p),(2,true))]⟩ [] 19):=by kernel_rfl
theorem FX (L p:Bs) (tk:Tok) (z n:Int) (x:AtV) (g:Bool) (Q:TV→VT→Prop):an Try.prog ae (aw [(nq,EB p)]) (aV [(999998, .dead,none),(4, .elt (gU z n x g),none),(11, .elt (gU z n x g),none)]) 300 ay 0 tc [.vec 8 L tk] ⟨[], []⟩ Q=
 (aU Try.prog (fun _=> .none) (.indexAddr 48 (.tmp 3) (.const (.int .i64 0))) [(3,(.vec 8 (L) (tk)))] (.elt [(.val (.int .u32 (z))),(.val (.int .i64 (n))),(.val (.int .i64 (AtV.o x))),(.vec 1 (iV (AtV.p x)) .none),(.val (.int .u32 (AtV.h x))),(.val (.int .i64 (AtV.m x))),(.val (.bool (AtV.hm x))),(.val (.bool (g)))])∧
 (bif g
 then (Ay (L) (p)∧
 Q (.agg [(.vec 2 (p) .none),(.val (.int .i64 0)),(.val (.slice .none 0 0)),(.val (.int .u32 0)),(.val (.int .i64 0)),(.val (.bool false)),(.val (.slice .none 0 0))]) ⟨[(.cells [(.vec 2 (p) .none),(.val (.int .i64 0)),(.val (.slice .none 0 0)),(.val (.int .u32 0)),(.val (.int .i64 0)),(.val (.bool false)),(.val (.slice .none 0 0))])], []⟩)
 else (aU Try.prog (fun _=> .none) (.indexAddr 48 (.tmp 10) (.const (.int .i64 0))) [(10,(.vec 8 (L) (tk)))] (.elt [(.val (.int .u32 (z))),(.val (.int .i64 (n))),(.val (.int .i64 (AtV.o x))),(.vec 1 (iV (AtV.p x)) .none),(.val (.int .u32 (AtV.h x))),(.val (.int .i64 (AtV.m x))),(.val (.bool (AtV.hm x))),(.val (.bool (g)))])∧
 (Ay (L) (p)∧
 (((@Eq (Option TV) (.some (.agg [(.val (.int .i64 (AtV.o x))),(.vec 1 (iV (AtV.p x)) .none),(.val (.int .u32 (AtV.h x))),(.val (.int .i64 (AtV.m x))),(.val (.bool (AtV.hm x)))])) (.some (.agg [(.val (.int .i64 (AtV.o x))),(.vec 1 (iV (AtV.p x)) .none),(.val (.int .u32 (AtV.h x))),(.val (.int .i64 (AtV.m x))),(.val (.bool (AtV.hm x)))])))∧
 True)∧
 Q (.agg [(.val (.slice .none 0 0)),(.val (.int .i64 (AtV.o x))),(.vec 1 (iV (AtV.p x)) .none),(.val (.int .u32 (AtV.h x))),(.val (.int .i64 (AtV.m x))),(.val (.bool (AtV.hm x))),(.vec 2 (p) .none)]) ⟨[(.cells [(.val (.slice .none 0 0)),(.val (.int .i64 (AtV.o x))),(.vec 1 (iV (AtV.p x)) .none),(.val (.int .u32 (AtV.h x))),(.val (.int .i64 (AtV.m x))),(.val (.bool (AtV.hm x))),(.vec 2 (p) .none)])], []⟩))))):=by kernel_rfl
theorem FY (L w n:Bs) (tk:Tok) (x:AtV) (z:Int) (Q:TV→VT→Prop):an Try.prog ae (aw [(tc,yu w x n),(Bb,EJ z)]) (aV [(999998, .dead,none)]) 300 ay 0 td [.vec 8 L tk, .ptr 0 0] ⟨[jp], []⟩ Q=
 (Az (L) (w) (x) (n)∧
 (Ez [(.vec 2 (w) .none),(.val (.int .i64 (AtV.o x))),(.vec 1 (iV (AtV.p x)) .none),(.val (.int .u32 (AtV.h x))),(.val (.int .i64 (AtV.m x))),(.val (.bool (AtV.hm x))),(.vec 2 (n) .none)] (z)∧
 Q (.val (.bool (decide (z≤(4077:Int))))) ⟨[(.cells [(.fn (.func 85) [] [])])], []⟩)):=by kernel_rfl
theorem FZ (L o:Bs) (tk:Tok) (Q:TV→VT→Prop):an Try.prog ae bc (aV [(999998, .dead,none)]) 300 (GT L tk o (ar Try.prog fW 0)) 0 fW [.vec 8 L tk,uV] ⟨[jp], []⟩ Q=
 ((ar Try.prog fW (0:Nat)=ar Try.prog fW (0:Nat))∧
 (((@Eq (Option Nat) .none .none)∧
 ((@Eq (Nat) 0 0)∧
 ((@Eq (List Nat) [] [])∧
 (((@Eq (Option TV) (.some (.val (.slice .none 0 0))) (.some (.val (.slice .none 0 0))))∧
 True)∧
 ((@Eq (VT) ⟨[(.cells [(.fn (.func 85) [] [])])], [(0,(1,true))]⟩ ⟨[(.cells [(.fn (.func 85) [] [])])], [(0,(1,true))]⟩)∧
 ((@Eq (Bool) true true)∧
 (@Eq (List TV) [(.vec 8 (L) (tk)),(.fn (.func 88) [] [(.ptr 0 0)]),(.vec 1 [] (.tail 0 0))] [(.vec 8 (L) (tk)),(.fn (.func 88) [] [(.ptr 0 0)]),(.vec 1 [] (.tail 0 0))])))))))∧
 Q (.vec 1 (o) (.tail 0 (List.length o))) ⟨[(.cells [(.fn (.func 85) [] [])])], [((List.length o),(1,true))]⟩)):=by kernel_rfl
theorem yy (l l2 c1 o o2:Bs) (tk:Tok) (k k2:Nat) (tl2:oT) (Q:Exit→List TV→VT→List Nat→Nat→Prop):vx Try.prog ae bc (aV [(999998, .dead,none),(28, .vec 8 c1 .none,none),(33, .vec 8 l2 tk,none),(30, .vec 1 o2 (.tail 0 k2),some fun T=>{T with tails:=tl2})]) 300 (GU l tk o k (ar Try.prog fW 2)) none 0 (cp Try.prog fW 0) (aq 35 th (o6 l tk o)) (fQ o.length) [] (cQ th Q)=
 (bif decide ((↑(List.length l):Int)>(0:Int))
 then ((ar Try.prog fW (2:Nat)=ar Try.prog fW (2:Nat))∧
 (((@Eq (Option Nat) .none .none)∧
 ((@Eq (Nat) 0 0)∧
 ((@Eq (List Nat) [] [])∧
 (True  ∧
 ((@Eq (VT) ⟨[(.cells [(.fn (.func 85) [] [])])], [((List.length o),(1,true))]⟩ ⟨[(.cells [(.fn (.func 85) [] [])])], [((List.length o),(1,true))]⟩)∧
 ((@Eq (Bool) true true)∧
 (@Eq (List TV) [(.vec 8 (l) (tk)),(.fn (.func 88) [] [(.ptr 0 0)]),(.vec 1 (o) (.tail 0 (List.length o))),(.val (.int .i64 1))] [(.vec 8 (l) (tk)),(.fn (.func 88) [] [(.ptr 0 0)]),(.vec 1 (o) (.tail 0 (List.length o))),(.val (.int .i64 1))])))))))∧
 (aU Try.prog (fun _=> .none) (.slice 48 (.tmp 25) .none (.some (.tmp 26)) (.some (.tmp 27))) [(25,(.vec 8 (l) (tk))),(26,(.val (.int .i64 ((↑k:Int))))),(27,(.val (.int .i64 ((↑k:Int)))))] (.vec 8 (c1) .none)∧
 (aU Try.prog (fun _=> .none) (.slice 48 (.tmp 31) (.some (.tmp 32)) .none .none) [(31,(.vec 8 (l) (tk))),(32,(.val (.int .i64 ((↑k:Int)))))] (.vec 8 (l2) (tk))∧
 (aW Try.prog (fun _=> .none) 0 ⟨[(.cells [(.fn (.func 85) [] [])])], [((List.length o),(1,true))]⟩ (.call ⟨(.builtin .append), #[(.tmp 24),(.tmp 29)], #[133,133]⟩) [(24,(.vec 1 (o) (.tail 0 (List.length o)))),(29,(.vec 1 [[(.vec 8 (c1) .none)]] .full))] (.vec 1 (o2) (.tail 0 (k2))) ⟨[(.cells [(.fn (.func 85) [] [])])],(tl2)⟩∧
 Q .normal [(.vec 8 (l2) (tk)),(.fn (.func 88) [] [(.ptr 0 0)]),(.vec 1 (o2) (.tail 0 (k2)))] ⟨[(.cells [(.fn (.func 85) [] [])])],(tl2)⟩ [] 35)))))
 else Q (.exit 0) [(.vec 8 (l) (tk)),(.fn (.func 88) [] [(.ptr 0 0)]),(.vec 1 (o) (.tail 0 (List.length o)))] ⟨[(.cells [(.fn (.func 85) [] [])])], [((List.length o),(1,true))]⟩ [] 35):=by kernel_rfl
theorem yz (l l1 o:Bs) (tk:Tok) (k:Nat) (b:Bool) (Q:Exit→List TV→VT→List Nat→Nat→Prop):vx Try.prog ae (aw [(td,Bd b)]) (aV [(999998, .dead,none),(19, .vec 8 l1 .none,none)]) 300 ay none 0 (cp Try.prog fW 2) (aq 35 ns (mn l tk o k)) (fQ o.length) [] (cQ ns Q)=
 (bif decide ((↑k:Int)<(↑(List.length l):Int))
 then (aU Try.prog (fun _=> .none) (.slice 48 (.tmp 16) .none (.some (.tmp 18)) .none) [(16,(.vec 8 (l) (tk))),(18,(.val (.int .i64 (IntKind.wrap IntKind.i64 ((↑k:Int)+(1:Int))))))] (.vec 8 (l1) .none)∧
 (((@Eq (Bool) true true)∧
 ((@Eq (Option VO) (.some (.cells [(.fn (.func 85) [] [])])) (.some (.cells [(.fn (.func 85) [] [])])))∧
 Ep (l1) (b)))∧
 (bif b
 then Q .normal [(.vec 8 (l) (tk)),(.fn (.func 88) [] [(.ptr 0 0)]),(.vec 1 (o) (.tail 0 (List.length o))),(.val (.int .i64 (IntKind.wrap IntKind.i64 ((↑k:Int)+(1:Int)))))] ⟨[(.cells [(.fn (.func 85) [] [])])], [((List.length o),(1,true))]⟩ [] 35
 else Q (.exit 2) [(.vec 8 (l) (tk)),(.fn (.func 88) [] [(.ptr 0 0)]),(.vec 1 (o) (.tail 0 (List.length o))),(.val (.int .i64 ((↑k:Int))))] ⟨[(.cells [(.fn (.func 85) [] [])])], [((List.length o),(1,true))]⟩ [] 35)))
 else Q (.exit 2) [(.vec 8 (l) (tk)),(.fn (.func 88) [] [(.ptr 0 0)]),(.vec 1 (o) (.tail 0 (List.length o))),(.val (.int .i64 ((↑k:Int))))] ⟨[(.cells [(.fn (.func 85) [] [])])], [((List.length o),(1,true))]⟩ [] 35):=by kernel_rfl
theorem F0 (L C u:Bs) (tk:Tok) (Q:TV→VT→Prop):an Try.prog ae (aw [(fW,EC C)]) (aV [(999998, .dead,none)]) 300 (GV C u (ar Try.prog jn 0)) 0 jn [.vec 8 L tk] ⟨[], []⟩ Q=
 (((@Eq (Nat) 88 88)∧
 ((@Eq (Bool) true true)∧
 ((@Eq (Option VO) (.some (.cells [(.fn (.func 85) [] [])])) (.some (.cells [(.fn (.func 85) [] [])])))∧
 Er (L) (C))))∧
 ((ar Try.prog jn (0:Nat)=ar Try.prog jn (0:Nat))∧
 (((@Eq (Option Nat) .none .none)∧
 ((@Eq (Nat) 0 0)∧
 ((@Eq (List Nat) [] [])∧
 (((@Eq (Option TV) (.some (.val (.slice .none 0 0))) (.some (.val (.slice .none 0 0))))∧
 True)∧
 ((@Eq (VT) ⟨[(.cells [(.fn (.func 85) [] [])])], [(0,(7,true))]⟩ ⟨[(.cells [(.fn (.func 85) [] [])])], [(0,(7,true))]⟩)∧
 ((@Eq (Bool) true true)∧
 (@Eq (List TV) [(.ptr 0 0),(.vec 7 [] (.tail 0 0)),(.vec 1 (C) .none),(.val (.int .i64 ((↑(List.length C):Int)))),(.val (.int .i64 0))] [(.ptr 0 0),(.vec 7 [] (.tail 0 0)),(.vec 1 (C) .none),(.val (.int .i64 ((↑(List.length C):Int)))),(.val (.int .i64 0))])))))))∧
 Q (.vec 7 (u) (.tail 0 (List.length u))) ⟨[(.cells [(.fn (.func 85) [] [])])], [((List.length u),(7,true))]⟩))):=by kernel_rfl
theorem yA (C u u2 c w n:Bs) (x:AtV) (j k2:Nat) (tl2:oT) (Q:Exit→List TV→VT→List Nat→Nat→Prop):vx Try.prog ae (aw [(tc,yu w x n)]) (aV [(999998, .dead,none),(13, .elt [.vec 8 c .none],none),(20, .vec 7 u2 (.tail 0 k2),some fun T=>{T with tails:=tl2})]) 300 ay none 0 (cp Try.prog jn 0) (aq 23 qL (mo C u j)) (o7 u.length) [] (cQ qL Q)=
 (bif decide ((↑j:Int)<(↑(List.length C):Int))
 then (aU Try.prog (fun _=> .none) (.indexAddr 133 (.tmp 9) (.tmp 11)) [(9,(.vec 1 (C) .none)),(11,(.val (.int .i64 ((↑j:Int)))))] (.elt [(.vec 8 (c) .none)])∧
 (Az (c) (w) (x) (n)∧
 (aW Try.prog (fun _=> .none) 0 ⟨[(.cells [(.fn (.func 85) [] [])])], [((List.length u),(7,true))]⟩ (.call ⟨(.builtin .append), #[(.tmp 15),(.tmp 19)], #[60,60]⟩) [(15,(.vec 7 (u) (.tail 0 (List.length u)))),(19,(.vec 7 [[(.vec 2 (w) .none),(.val (.int .i64 (AtV.o x))),(.vec 1 (iV (AtV.p x)) .none),(.val (.int .u32 (AtV.h x))),(.val (.int .i64 (AtV.m x))),(.val (.bool (AtV.hm x))),(.vec 2 (n) .none)]] .full))] (.vec 7 (u2) (.tail 0 (k2))) ⟨[(.cells [(.fn (.func 85) [] [])])],(tl2)⟩∧
 Q .normal [(.ptr 0 0),(.vec 7 (u2) (.tail 0 (k2))),(.vec 1 (C) .none),(.val (.int .i64 ((↑(List.length C):Int)))),(.val (.int .i64 (IntKind.wrap IntKind.i64 ((↑j:Int)+(1:Int)))))] ⟨[(.cells [(.fn (.func 85) [] [])])],(tl2)⟩ [] 23)))
 else Q (.exit 0) [(.ptr 0 0),(.vec 7 (u) (.tail 0 (List.length u))),(.vec 1 (C) .none),(.val (.int .i64 ((↑(List.length C):Int)))),(.val (.int .i64 ((↑j:Int))))] ⟨[(.cells [(.fn (.func 85) [] [])])], [((List.length u),(7,true))]⟩ [] 23):=by kernel_rfl
theorem F1 (L a b u0 u:Bs) (tk:Tok) (R:Bs→Bs) (Q:TV→VT→Prop):an Try.prog ae (aw [(dD,EF R),(e6,ED a b),(jn,EE u0)]) (aV [(999998, .dead,none)]) 300 (GW b u0 u (ar Try.prog mm 0)) 0 mm [.vec 8 L tk] ⟨[], []⟩ Q=
 (Eu (L)∧
 (((@Eq (Nat) 60 60)∧
 Es (R L) (a) (b))∧
 (((@Eq (Nat) 0 0)∧
 wx (a) (u0))∧
 ((ar Try.prog mm (0:Nat)=ar Try.prog mm (0:Nat))∧
 (((@Eq (Option Nat) .none .none)∧
 ((@Eq (Nat) 0 0)∧
 ((@Eq (List Nat) [] [])∧
 (True  ∧
 ((@Eq (VT) ⟨[], [((List.length u0),(7,true))]⟩ ⟨[], [((List.length u0),(7,true))]⟩)∧
 ((@Eq (Bool) true true)∧
 (@Eq (List TV) [(.vec 8 (b) .none),(.vec 7 (u0) (.tail 0 (List.length u0)))] [(.vec 8 (b) .none),(.vec 7 (u0) (.tail 0 (List.length u0)))])))))))∧
 Q (.vec 7 (u) (.tail 0 (List.length u))) ⟨[], [((List.length u),(7,true))]⟩))))):=by kernel_rfl
theorem yB (l a b u u1 u2:Bs) (z n:Int) (x:AtV) (g:Bool) (k2:Nat) (tl2:oT) (Q:Exit→List TV→VT→List Nat→Nat→Prop):vx Try.prog ae (aw [(e6,Be x a b),(jn,Bf u1)]) (aV [(999998, .dead,none),(20, .elt (gU z n x g),none),(32, .vec 7 u2 (.tail 0 k2),some fun T=>{T with tails:=tl2})]) 300 ay none 0 (cp Try.prog mm 0) (aq 34 ti (o8 l u)) (qM u.length) [] (cQ ti Q)=
 (bif decide ((↑(List.length l):Int)>(0:Int))
 then (aU Try.prog (fun _=> .none) (.indexAddr 48 (.tmp 19) (.const (.int .i64 0))) [(19,(.vec 8 (l) .none))] (.elt [(.val (.int .u32 (z))),(.val (.int .i64 (n))),(.val (.int .i64 (AtV.o x))),(.vec 1 (iV (AtV.p x)) .none),(.val (.int .u32 (AtV.h x))),(.val (.int .i64 (AtV.m x))),(.val (.bool (AtV.hm x))),(.val (.bool (g)))])∧
 (((@Eq (Nat) 62 62)∧
 ((@Eq (Bool) true true)∧
 ((@Eq (Option VO) (.some (.cells [(.val (.int .i64 (AtV.o x))),(.vec 1 (iV (AtV.p x)) .none),(.val (.int .u32 (AtV.h x))),(.val (.int .i64 (AtV.m x))),(.val (.bool (AtV.hm x)))])) (.some (.cells [(.val (.int .i64 (AtV.o x))),(.vec 1 (iV (AtV.p x)) .none),(.val (.int .u32 (AtV.h x))),(.val (.int .i64 (AtV.m x))),(.val (.bool (AtV.hm x)))])))∧
 Et (x) (l) (a) (b))))∧
 (wx (a) (u1)∧
 (aW Try.prog (fun _=> .none) 0 ⟨[(.cells [(.val (.int .i64 (AtV.o x))),(.vec 1 (iV (AtV.p x)) .none),(.val (.int .u32 (AtV.h x))),(.val (.int .i64 (AtV.m x))),(.val (.bool (AtV.hm x)))])], [((List.length u),(7,true))]⟩ (.call ⟨(.builtin .append), #[(.tmp 29),(.tmp 31)], #[60,60]⟩) [(29,(.vec 7 (u) (.tail 0 (List.length u)))),(31,(.vec 7 (u1) .none))] (.vec 7 (u2) (.tail 0 (k2))) ⟨[(.cells [(.val (.int .i64 (AtV.o x))),(.vec 1 (iV (AtV.p x)) .none),(.val (.int .u32 (AtV.h x))),(.val (.int .i64 (AtV.m x))),(.val (.bool (AtV.hm x)))])],(tl2)⟩∧
 Q .normal [(.vec 8 (b) .none),(.vec 7 (u2) (.tail 0 (k2)))] ⟨[(.cells [(.val (.int .i64 (AtV.o x))),(.vec 1 (iV (AtV.p x)) .none),(.val (.int .u32 (AtV.h x))),(.val (.int .i64 (AtV.m x))),(.val (.bool (AtV.hm x)))])],(tl2)⟩ [] 34))))
 else Q (.exit 0) [(.vec 8 (l) .none),(.vec 7 (u) (.tail 0 (List.length u)))] ⟨[], [((List.length u),(7,true))]⟩ [] 34):=by kernel_rfl
theorem F2 (w n b:Bs) (x:AtV) (ok:Bool) (Q:TV→VT→Prop):an Try.prog ae (aw [(Gp,EH ok),(Gq,EI b)]) (aV [(999998, .dead,none)]) 300 ay 0 Bb [.agg (EA w x n)] ⟨[], []⟩ Q=
 (Ex [(.vec 2 (w) .none),(.val (.int .i64 (AtV.o x))),(.vec 1 (iV (AtV.p x)) .none),(.val (.int .u32 (AtV.h x))),(.val (.int .i64 (AtV.m x))),(.val (.bool (AtV.hm x))),(.vec 2 (n) .none)] (ok)∧
 (bif !ok
 then Q (.val (.int .i64 0)) ⟨[(.cells [(.vec 2 (w) .none),(.val (.int .i64 (AtV.o x))),(.vec 1 (iV (AtV.p x)) .none),(.val (.int .u32 (AtV.h x))),(.val (.int .i64 (AtV.m x))),(.val (.bool (AtV.hm x))),(.vec 2 (n) .none)])], []⟩
 else (Ey [(.vec 2 (w) .none),(.val (.int .i64 (AtV.o x))),(.vec 1 (iV (AtV.p x)) .none),(.val (.int .u32 (AtV.h x))),(.val (.int .i64 (AtV.m x))),(.val (.bool (AtV.hm x))),(.vec 2 (n) .none)] (b)∧
 Q (.val (.int .i64 ((↑(List.length b):Int)))) ⟨[(.cells [(.vec 2 (w) .none),(.val (.int .i64 (AtV.o x))),(.vec 1 (iV (AtV.p x)) .none),(.val (.int .u32 (AtV.h x))),(.val (.int .i64 (AtV.m x))),(.val (.bool (AtV.hm x))),(.vec 2 (n) .none)])], []⟩))):=by kernel_rfl
theorem F3 (u:Bs) (x:AtV) (p q:List TV) (Q:TV→VT→Prop):an Try.prog ae (aw [(mm,Bg [EA [] x [p,q]])]) (aV [(999998, .dead,none)]) 300 ay 0 Bc [] ⟨[], []⟩ Q=
 (wy [[(.val (.int .u32 16777216)),(.val (.int .i64 8)),(.val (.int .i64 0)),(.val (.slice .none 0 0)),(.val (.int .u32 9)),(.val (.int .i64 0)),(.val (.bool false)),(.val (.bool false))], [(.val (.int .u32 33554432)),(.val (.int .i64 8)),(.val (.int .i64 0)),(.val (.slice .none 0 0)),(.val (.int .u32 9)),(.val (.int .i64 0)),(.val (.bool false)),(.val (.bool false))]] [[(.vec 2 [] .none),(.val (.int .i64 (AtV.o x))),(.vec 1 (iV (AtV.p x)) .none),(.val (.int .u32 (AtV.h x))),(.val (.int .i64 (AtV.m x))),(.val (.bool (AtV.hm x))),(.vec 2 [(p),(q)] .none)]]∧
 Q (.val (.bool true)) ⟨[(.cells [(.val (.int .i64 0)),(.val (.slice .none 0 0)),(.val (.int .u32 9)),(.val (.int .i64 0)),(.val (.bool false))])], []⟩):=by kernel_rfl
end
section
open Go.RowKit
set_option maxRecDepth 100000

theorem ik (cs:List Ch):(cs.map aj).length=cs.length:=List.length_map _
theorem wC {cs:List Ch} {j:Nat} {c:Ch} {tok:Tok} (x i:Nat) (hne:Nat.beq x i=false) (hp:cs[j]?=some c):aU Try.prog ae (.indexAddr 48 (.tmp x) (.tmp i)) [(x, .vec 8 (cs.map aj) tok),(i, .val (.int .i64 (j:Int)))] (.elt (aj c)):=
 mg.ix hne (by simp [hp])
theorem tj {c:Ch} {cs:List Ch} {tok:Tok} (x:Nat):aU Try.prog ae (.indexAddr 48 (.tmp x) (.const (.int .i64 0))) [(x, .vec 8 ((c::cs).map aj) tok)] (.elt (aj c)):=mg.ix0 rfl
theorem o9 {objs:List VO} {tl:oT} {k:Nat} {A:Bs} {c:Ch} (s x:Nat) (hk:tl[k]?=some (A.length,8,true)) (hne:Nat.beq s x=false) (hl:A.length≤10000000):aW Try.prog ae 0 ⟨objs,tl⟩ (.call ⟨.builtin .append, #[.tmp s, .tmp x], #[48,48]⟩) [(s, .vec 8 A (.tail k A.length)),(x, .vec 8 [aj c] .full)] (.vec 8 (A++ [aj c]) (.tail k (A.length+1))) ⟨objs,tl.set k (A.length+1,8,true)⟩:=
 mg.app (T:=⟨objs,tl⟩) hk hne (by simp only [List.length_cons,List.length_nil];omega)
theorem ju {α:Type} {cs:List α} {j:Nat} {c:α} (h:cs[j]?=some c):cs.take (j+1)=cs.take j++ [c]:=by rw [List.take_add_one,h];rfl
theorem pc {cs:List Ch} {j:Nat} {c:Ch} (h:cs[j]?=some c) {f:Ch→Bool} (hf:f c=true):((cs.take (j+1)).filter f).map aj=((cs.take j).filter f).map aj++ [aj c]:=by
 rw [ju h,List.filter_append,List.map_append];simp [hf]
theorem pd {cs:List Ch} {j:Nat} {c:Ch} (h:cs[j]?=some c) {f:Ch→Bool} (hf:f c=false):((cs.take (j+1)).filter f).map aj=((cs.take j).filter f).map aj:=by
 rw [ju h,List.filter_append,List.map_append];simp [hf]
theorem kX (cs:List Ch) (f:Ch→Bool):((cs.filter f).map aj).length≤cs.length:=by
 rw [List.length_map];exact List.length_filter_le _ _
theorem CD (c:Ch):VCx Try.prog ae 0 te [.agg (aj c)] ⟨[], []⟩ fun x T' =>x= .val (.bool c.2.2)∧T' =⟨[], []⟩:=
 VCx.keepQ 0 0 (Nat.le_refl _) (Nat.le_refl _) (ah ac aa ai ag (EK c.1.1 c.1.2 c.2.1 c.2.2 _) ⟨rfl,rfl⟩)
theorem CE (b:Bool):∀ro ys T K,wA b ro ys T K→VCx Try.prog ae ro te ys T K:=by
 intro ro ys T K h
 unfold wA at h
 split at h
 ·obtain ⟨⟨c,rfl,rfl⟩,hk⟩:=h
  exact VCx.liftPure am (CD c) (by simp only [av,TV.ren,pV]) (fun _ _=>rfl) hk
 ·exact h.elim
theorem GF (ok:Bool):aZ Try.prog ae (aw [(nm,A2 ok)]):=az fun p hp=>by obtain rfl:=List.mem_singleton.1 hp;exact D7 ok
theorem kb (a:AtV) (f g:Nat→Option Nat):av f g a.cells=a.cells:=by simp only [AtV.cells,av,TV.ren,dA,Tok.ren]
theorem CF (c:Ch) (y:AtV) (h1:c.2.1.p.length≤9223372036854775807) (h2:y.p.length≤9223372036854775807):VCx Try.prog ae 0 tf [.agg (aj c), .ptr 0 0] ⟨[.cells y.cells], []⟩ fun x T' =>x= .val (.bool (decide (c.2.1=y)))∧T' =⟨[.cells y.cells], []⟩:=by
 refine VCx.keepQ 1 0 (Nat.le_refl _) (Nat.le_refl _) (ah ac aa (GF _) ag (EL c.1.1 c.1.2 c.2.1 y c.2.2 (decide (c.2.1=y)) _) ⟨?_,rfl, ?_⟩)
 ·exact ⟨c.2.1,y,⟨rfl,rfl⟩,⟨h1,h2⟩,rfl⟩
 ·show VT.keep ⟨.cells y.cells::_, []⟩ 1 0=_
  simp only [VT.keep,List.take_succ_cons,List.take_zero,List.map_cons,List.map_nil,VO.ren,kb]
theorem CG (y:AtV) (b:Bool):∀ro ys T K,wB y.cells b ro ys T K→VCx Try.prog ae ro tf ys T K:=by
 intro ro ys T K h
 unfold wB at h
 split at h
 ·obtain ⟨⟨hro,ho,a,c,ha,rfl,h1,h2,rfl⟩,hk⟩:=h
  rename_i l i
  rw [ha] at ho
  refine VCx.atKeep (R:=fun x=>x= .val (.bool (decide (c.2.1=a)))) (ys1:= [.agg (aj c), .ptr 0 0]) am (Nat.le_of_ble_eq_true hro) ho rfl (fun f g=>by simp only [VO.ren,kb]) ?_ (CF c a h2 h1) (fun x hx=>by subst hx;exact ⟨fun _ _=>rfl,hk⟩)
  refine ⟨.of_eq (by simp only [TV.ren,pV]), .of_eq ?_,trivial⟩
  simp [TV.ren,aP]
 ·exact h.elim
theorem Bh (b:Bool):aZ Try.prog ae (aw [(te,wA b)]):=az fun p hp=>by obtain rfl:=List.mem_singleton.1 hp;exact CE b
theorem Bi (y:AtV) (b:Bool):aZ Try.prog ae (aw [(tf,wB y.cells b)]):=az fun p hp=>by obtain rfl:=List.mem_singleton.1 hp;exact CG y b

section

theorem AA {cs:List Ch} (hl:cs.length≤1000000) (K:KX) (hK:K .normal (aq 30 jt (du jq (cs.map aj) .none ((cs.filter (fun c=>c.2.2)).map aj) ((cs.filter (fun c=> !c.2.2)).map aj) ((cs.map aj).length:Nat))) (fF [] ((cs.filter (fun c=>c.2.2)).map aj).length ((cs.filter (fun c=> !c.2.2)).map aj).length) []):
    VWx Try.prog ae none 0 (ar Try.prog e6 0) (aq 30 jt (du jq (cs.map aj) .none [] [] 0)) (fF [] 0 0) [] K:=by
  have hlen:=ik cs
  refine di (f:=e6) (id:=0) (by kernel_rfl) 30 jt (fun j:Nat=>cs.length-j) (fun j:Nat=>du jq (cs.map aj) .none (((cs.take j).filter (fun c=>c.2.2)).map aj) (((cs.take j).filter (fun c=> !c.2.2)).map aj) (j:Int)) (fun j=>fF [] (((cs.take j).filter (fun c=>c.2.2)).map aj).length (((cs.take j).filter (fun c=> !c.2.2)).map aj).length) (fun j=>j≤cs.length) 0 2 (fun j _=>⟨Nat.le_refl _,Nat.le_refl _⟩)
    (fun e vs T=>e= .normal∧vs=du jq (cs.map aj) .none ((cs.filter (fun c=>c.2.2)).map aj) ((cs.filter (fun c=> !c.2.2)).map aj) ((cs.map aj).length:Nat)∧T=fF [] ((cs.filter (fun c=>c.2.2)).map aj).length ((cs.filter (fun c=> !c.2.2)).map aj).length) (fun j hj=> ?_) 0 (Nat.zero_le _) K ?_
  rotate_left
  · rintro e vs T ⟨rfl,rfl,rfl⟩
    exact hK
  have hA:=kX (cs.take j) (fun c=>c.2.2)
  have hB:=kX (cs.take j) (fun c=> !c.2.2)
  rw [List.length_take] at hA hB
  show VWx _ _ _ _ _ (aq 30 jt (du jq (cs.map aj) .none (((cs.take j).filter (fun c=>c.2.2)).map aj) (((cs.take j).filter (fun c=> !c.2.2)).map aj) (j:Int))) (fF [] (((cs.take j).filter (fun c=>c.2.2)).map aj).length (((cs.take j).filter (fun c=> !c.2.2)).map aj).length) _ _
  generalize eA:((cs.take j).filter (fun c=>c.2.2)).map aj=A at hA
  generalize eB:((cs.take j).filter (fun c=> !c.2.2)).map aj=B at hB
  by_cases hlt:j<cs.length
  · have hr:=List.getElem?_eq_getElem hlt
    have hm:cs[j]∈cs:=List.getElem_mem hlt
    generalize cs[j]=c at hr hm
    refine bF ac aa (Bh _) ag (yv (cs.map aj) A B (A++ [aj c]) (B++ [aj c]) .none c.1.1 c.1.2 c.2.1 c.2.2 (c.2.2) j (A.length+1) (B.length+1) [(A.length+1,8,true),(B.length,8,true)] [(A.length,8,true),(B.length+1,8,true)] _) ?_
    refine bp (decide_eq_true (by rw [hlen];omega)) ⟨wC 10 12 rfl hr,⟨c,rfl,rfl⟩, ?_⟩
    rw [g7 (by omega)]
    have hend:∀(A' B' :Bs) (o:List VO),((cs.take (j+1)).filter (fun c=>c.2.2)).map aj=A' →((cs.take (j+1)).filter (fun c=> !c.2.2)).map aj=B' →oQ 30 0 (fun j:Nat=>cs.length-j) (fun j:Nat=>du jq (cs.map aj) .none (((cs.take j).filter (fun c=>c.2.2)).map aj) (((cs.take j).filter (fun c=> !c.2.2)).map aj) (j:Int)) (fun j=>fF [] (((cs.take j).filter (fun c=>c.2.2)).map aj).length (((cs.take j).filter (fun c=> !c.2.2)).map aj).length) (fun j=>j≤cs.length) 0 2 j
        (fun e vs T=>e= .normal∧vs=du jq (cs.map aj) .none ((cs.filter (fun c=>c.2.2)).map aj) ((cs.filter (fun c=> !c.2.2)).map aj) ((cs.map aj).length:Nat)∧T=fF [] ((cs.filter (fun c=>c.2.2)).map aj).length ((cs.filter (fun c=> !c.2.2)).map aj).length)
        .normal (du jq (cs.map aj) .none A' B' ((j+1:Nat):Int)) ⟨[]++o, [(A'.length,8,true),(B'.length,8,true)]⟩ [] 30:=fun A' B' o h1 h2=>by
      subst h1 h2
      refine ⟨rfl,rfl,j+1,hlt,by show cs.length-(j+1)<cs.length-j;omega, .inr ⟨?_, ?_⟩⟩
      · simp only [VT.keep,fF,List.cons_append,List.nil_append,List.take_succ_cons,List.take_zero,List.map_cons,List.map_nil,VO.ren,kb]
      · simp only [du,av,TV.ren,bk,Tok.ren];rfl
    refine bq (fun hf=> ?_) (fun hf=> ?_)
    · have e1:=pc hr (f:=(fun c=>c.2.2)) hf
      have e2:=pd hr (f:=(fun c=> !c.2.2)) (by rw [hf];rfl)
      rw [eA] at e1;rw [eB] at e2
      refine ⟨o9 19 21 rfl rfl (by omega), ?_⟩
      have:=hend (A++ [aj c]) B [.cells (aj c)] e1 e2
      rw [show (A++ [aj c]).length=A.length+1 by simp] at this
      unfold du at this
      rw [show (A++ [aj c]).length=A.length+1 by simp] at this
      exact this
    · have e1:=pd hr (f:=(fun c=>c.2.2)) hf
      have e2:=pc hr (f:=(fun c=> !c.2.2)) (by rw [hf];rfl)
      rw [eA] at e1;rw [eB] at e2
      refine ⟨o9 23 25 rfl rfl (by omega), ?_⟩
      have:=hend A (B++ [aj c]) [.cells (aj c)] e1 e2
      rw [show (B++ [aj c]).length=B.length+1 by simp] at this
      unfold du at this
      rw [show (B++ [aj c]).length=B.length+1 by simp] at this
      exact this
  · obtain rfl:j=cs.length:=by omega
    rw [List.take_length] at eA eB
    rw [eA,eB]
    refine bF ac aa (Bh true) ag (yv (cs.map aj) A B [] [] .none 0 0 dj true true cs.length 0 0 [] [] _) (aX (decide_eq_false (by rw [hlen];omega)) ?_)
    exact ⟨rfl,rfl,rfl,by simp only [du,hlen];rfl,rfl⟩
theorem CH {cs:List Ch} (hl:cs.length≤1000000):VCx Try.prog ae 0 e6 [.vec 8 (cs.map aj) .none,jq] ⟨[], []⟩ fun x T' =>x= .tup [.vec 8 ((cs.filter (fun c=>c.2.2)).map aj) .none, .vec 8 ((cs.filter (fun c=> !c.2.2)).map aj) .none]∧T' =⟨[], []⟩:=by
 refine VCx.toLe (Q:=fun T' =>T' =⟨[], []⟩) (VCx.keepQ 0 0 (Nat.le_refl _) (Nat.le_refl _) (ah ac aa ai (bw fun p hp=> ?_) (EM (cs.map aj) ((cs.filter (fun c=>c.2.2)).map aj) ((cs.filter (fun c=> !c.2.2)).map aj) .none _) ⟨rfl,⟨rfl,rfl,rfl,⟨rfl,rfl,trivial⟩,rfl,rfl,rfl⟩, ?_, ?_⟩))
 ·obtain rfl:=List.mem_singleton.1 hp
  exact bL (AA hl)
 ·simp only [TV.ren,av,bk]
  exact .tup ⟨.vec 8 _ _, .vec 8 _ _,trivial⟩
 ·rfl
end

section
variable {y:AtV}
theorem AB {cs:List Ch} (hl:cs.length≤1000000) (hy:y.p.length≤9223372036854775807) (hpl:∀c∈cs,c.2.1.p.length≤9223372036854775807) (K:KX) (hK:K .normal (aq 30 jt (du jr (cs.map aj) .none ((cs.filter (fun c=>decide (c.2.1=y))).map aj) ((cs.filter (fun c=> !decide (c.2.1=y))).map aj) ((cs.map aj).length:Nat))) (fF [.cells y.cells] ((cs.filter (fun c=>decide (c.2.1=y))).map aj).length ((cs.filter (fun c=> !decide (c.2.1=y))).map aj).length) []):
    VWx Try.prog ae none 0 (ar Try.prog e6 0) (aq 30 jt (du jr (cs.map aj) .none [] [] 0)) (fF [.cells y.cells] 0 0) [] K:=by
  have hlen:=ik cs
  refine di (f:=e6) (id:=0) (by kernel_rfl) 30 jt (fun j:Nat=>cs.length-j) (fun j:Nat=>du jr (cs.map aj) .none (((cs.take j).filter (fun c=>decide (c.2.1=y))).map aj) (((cs.take j).filter (fun c=> !decide (c.2.1=y))).map aj) (j:Int)) (fun j=>fF [.cells y.cells] (((cs.take j).filter (fun c=>decide (c.2.1=y))).map aj).length (((cs.take j).filter (fun c=> !decide (c.2.1=y))).map aj).length) (fun j=>j≤cs.length) 1 2 (fun j _=>⟨Nat.le_refl _,Nat.le_refl _⟩)
    (fun e vs T=>e= .normal∧vs=du jr (cs.map aj) .none ((cs.filter (fun c=>decide (c.2.1=y))).map aj) ((cs.filter (fun c=> !decide (c.2.1=y))).map aj) ((cs.map aj).length:Nat)∧T=fF [.cells y.cells] ((cs.filter (fun c=>decide (c.2.1=y))).map aj).length ((cs.filter (fun c=> !decide (c.2.1=y))).map aj).length) (fun j hj=> ?_) 0 (Nat.zero_le _) K ?_
  rotate_left
  · rintro e vs T ⟨rfl,rfl,rfl⟩
    exact hK
  have hA:=kX (cs.take j) (fun c=>decide (c.2.1=y))
  have hB:=kX (cs.take j) (fun c=> !decide (c.2.1=y))
  rw [List.length_take] at hA hB
  show VWx _ _ _ _ _ (aq 30 jt (du jr (cs.map aj) .none (((cs.take j).filter (fun c=>decide (c.2.1=y))).map aj) (((cs.take j).filter (fun c=> !decide (c.2.1=y))).map aj) (j:Int))) (fF [.cells y.cells] (((cs.take j).filter (fun c=>decide (c.2.1=y))).map aj).length (((cs.take j).filter (fun c=> !decide (c.2.1=y))).map aj).length) _ _
  generalize eA:((cs.take j).filter (fun c=>decide (c.2.1=y))).map aj=A at hA
  generalize eB:((cs.take j).filter (fun c=> !decide (c.2.1=y))).map aj=B at hB
  by_cases hlt:j<cs.length
  · have hr:=List.getElem?_eq_getElem hlt
    have hm:cs[j]∈cs:=List.getElem_mem hlt
    generalize cs[j]=c at hr hm
    refine bF ac aa (Bi y _) ag (yw y (cs.map aj) A B (A++ [aj c]) (B++ [aj c]) .none c.1.1 c.1.2 c.2.1 c.2.2 (decide (c.2.1=y)) j (A.length+1) (B.length+1) [(A.length+1,8,true),(B.length,8,true)] [(A.length,8,true),(B.length+1,8,true)] _) ?_
    refine bp (decide_eq_true (by rw [hlen];omega)) ⟨wC 10 12 rfl hr,⟨rfl,rfl,y,c,rfl,rfl,hy,hpl c hm,rfl⟩, ?_⟩
    rw [g7 (by omega)]
    have hend:∀(A' B' :Bs) (o:List VO),((cs.take (j+1)).filter (fun c=>decide (c.2.1=y))).map aj=A' →((cs.take (j+1)).filter (fun c=> !decide (c.2.1=y))).map aj=B' →oQ 30 0 (fun j:Nat=>cs.length-j) (fun j:Nat=>du jr (cs.map aj) .none (((cs.take j).filter (fun c=>decide (c.2.1=y))).map aj) (((cs.take j).filter (fun c=> !decide (c.2.1=y))).map aj) (j:Int)) (fun j=>fF [.cells y.cells] (((cs.take j).filter (fun c=>decide (c.2.1=y))).map aj).length (((cs.take j).filter (fun c=> !decide (c.2.1=y))).map aj).length) (fun j=>j≤cs.length) 1 2 j
        (fun e vs T=>e= .normal∧vs=du jr (cs.map aj) .none ((cs.filter (fun c=>decide (c.2.1=y))).map aj) ((cs.filter (fun c=> !decide (c.2.1=y))).map aj) ((cs.map aj).length:Nat)∧T=fF [.cells y.cells] ((cs.filter (fun c=>decide (c.2.1=y))).map aj).length ((cs.filter (fun c=> !decide (c.2.1=y))).map aj).length)
        .normal (du jr (cs.map aj) .none A' B' ((j+1:Nat):Int)) ⟨[.cells y.cells]++o, [(A'.length,8,true),(B'.length,8,true)]⟩ [] 30:=fun A' B' o h1 h2=>by
      subst h1 h2
      refine ⟨rfl,rfl,j+1,hlt,by show cs.length-(j+1)<cs.length-j;omega, .inr ⟨?_, ?_⟩⟩
      · simp only [VT.keep,fF,List.cons_append,List.nil_append,List.take_succ_cons,List.take_zero,List.map_cons,List.map_nil,VO.ren,kb]
      · simp only [du,av,TV.ren,bk,Tok.ren];rfl
    refine bq (fun hf=> ?_) (fun hf=> ?_)
    · have e1:=pc hr (f:=(fun c=>decide (c.2.1=y))) hf
      have e2:=pd hr (f:=(fun c=> !decide (c.2.1=y))) (by rw [hf];rfl)
      rw [eA] at e1;rw [eB] at e2
      refine ⟨o9 19 21 rfl rfl (by omega), ?_⟩
      have:=hend (A++ [aj c]) B [.cells (aj c)] e1 e2
      rw [show (A++ [aj c]).length=A.length+1 by simp] at this
      unfold du at this
      rw [show (A++ [aj c]).length=A.length+1 by simp] at this
      exact this
    · have e1:=pd hr (f:=(fun c=>decide (c.2.1=y))) hf
      have e2:=pc hr (f:=(fun c=> !decide (c.2.1=y))) (by rw [hf];rfl)
      rw [eA] at e1;rw [eB] at e2
      refine ⟨o9 23 25 rfl rfl (by omega), ?_⟩
      have:=hend A (B++ [aj c]) [.cells (aj c)] e1 e2
      rw [show (B++ [aj c]).length=B.length+1 by simp] at this
      unfold du at this
      rw [show (B++ [aj c]).length=B.length+1 by simp] at this
      exact this
  · obtain rfl:j=cs.length:=by omega
    rw [List.take_length] at eA eB
    rw [eA,eB]
    refine bF ac aa (Bi y true) ag (yw y (cs.map aj) A B [] [] .none 0 0 dj true true cs.length 0 0 [] [] _) (aX (decide_eq_false (by rw [hlen];omega)) ?_)
    exact ⟨rfl,rfl,rfl,by simp only [du,hlen];rfl,rfl⟩
theorem CI {cs:List Ch} (hl:cs.length≤1000000) (hy:y.p.length≤9223372036854775807) (hpl:∀c∈cs,c.2.1.p.length≤9223372036854775807):VCx Try.prog ae 0 e6 [.vec 8 (cs.map aj) .none,jr] ⟨[.cells y.cells], []⟩ fun x T' =>x= .tup [.vec 8 ((cs.filter (fun c=>decide (c.2.1=y))).map aj) .none, .vec 8 ((cs.filter (fun c=> !decide (c.2.1=y))).map aj) .none]∧T' =⟨[.cells y.cells], []⟩:=by
 refine VCx.toLe (Q:=fun T' =>T' =⟨[.cells y.cells], []⟩) (VCx.keepQ 1 0 (Nat.le_refl _) (Nat.le_refl _) (ah ac aa ai (bw fun p hp=> ?_) (EN y (cs.map aj) ((cs.filter (fun c=>decide (c.2.1=y))).map aj) ((cs.filter (fun c=> !decide (c.2.1=y))).map aj) .none _) ⟨rfl,⟨rfl,rfl,rfl,⟨rfl,rfl,trivial⟩,rfl,rfl,rfl⟩, ?_, ?_⟩))
 ·obtain rfl:=List.mem_singleton.1 hp
  exact bL (AB hl hy hpl)
 ·simp only [TV.ren,av,bk]
  exact .tup ⟨.vec 8 _ _, .vec 8 _ _,trivial⟩
 ·show VT.keep ⟨[.cells y.cells],_⟩ 1 0=_
  simp only [VT.keep,List.take_succ_cons,List.take_zero,List.map_cons,List.map_nil,VO.ren,kb]
end

theorem EO (a b:Bs):∀ro ys T K,ED a b ro ys T K→VCx Try.prog ae ro e6 ys T K:=by
 intro ro ys T K h
 unfold ED at h
 split at h
 ·obtain ⟨⟨rfl,cs,rfl,hl,rfl,rfl⟩,hk⟩:=h
  refine VCx.argsLe (xs:= [.vec 8 (cs.map aj) .none,jq]) ⟨.vec 8 _ _, .refl _,trivial⟩ ?_
  exact VCx.liftPure am (CH hl) (by simp only [jq,av,TV.ren,bk,Tok.ren]) (fun _ _=>by simp only [TV.ren,av,bk,Tok.ren]) hk
 ·exact h.elim
theorem EP (y:AtV) (a b:Bs):∀ro ys T K,Be y a b ro ys T K→VCx Try.prog ae ro e6 ys T K:=by
 intro ro ys T K h
 unfold Be at h
 split at h
 ·rename_i l tok f i
  obtain ⟨⟨rfl,hro,ho,cs,rfl,hc,hy,rfl,rfl⟩,hk⟩:=h
  have hl:=hc.few
  refine VCx.atKeep (R:=fun x=>x=_) (ys1:= [.vec 8 (cs.map aj) .none,jr]) am (Nat.le_of_ble_eq_true hro) ho rfl (fun f g=>by simp only [VO.ren,kb]) ?_ (CI (by omega) hy fun c h=>(hc.at' c h).1) (fun x hx=>by subst hx;exact ⟨fun _ _=>by simp only [TV.ren,av,bk,Tok.ren],hk⟩)
  refine ⟨?_, .of_eq ?_,trivial⟩
  ·simp only [TV.ren,bk]
   exact .vec 8 _ _
  ·simp [TV.ren,av,aP,jr]
 ·exact h.elim
theorem GX:RowI Try.prog 42 29 2:=⟨Try.underlying42,⟨(Try.prog.info? 29).getD default,((Try.prog.info? 29).getD default).zero.getD default,by kernel_rfl,by kernel_rfl,Nat.le_of_ble_eq_true (by kernel_rfl),by kernel_rfl,by kernel_rfl⟩,by omega⟩
theorem CJ {cs:List Ch} (hl:cs.length≤1000000) (K:KX) (hK:K .normal (aq 19 tg (nr (cs.map aj) .none (aD (cs.map (·.1))) ((cs.map aj).length:Nat))) (qK (aD (cs.map (·.1))).length) []):
    VWx Try.prog ae none 0 (ar Try.prog nq 0) (aq 19 tg (nr (cs.map aj) .none [] 0)) (qK 0) [] K:=by
  have hlen:=ik cs
  refine di (f:=nq) (id:=0) (by kernel_rfl) 19 tg (fun j:Nat=>cs.length-j) (fun j:Nat=>nr (cs.map aj) .none (aD ((cs.take j).map (·.1))) (j:Int)) (fun j=>qK (aD ((cs.take j).map (·.1))).length) (fun j=>j≤cs.length) 0 1 (fun j _=>⟨Nat.le_refl _,Nat.le_refl _⟩)
    (fun e vs T=>e= .normal∧vs=nr (cs.map aj) .none (aD (cs.map (·.1))) ((cs.map aj).length:Nat)∧T=qK (aD (cs.map (·.1))).length) (fun j hj=> ?_) 0 (Nat.zero_le _) K ?_
  rotate_left
  · rintro e vs T ⟨rfl,rfl,rfl⟩
    exact hK
  by_cases hlt:j<cs.length
  · have hr:=List.getElem?_eq_getElem hlt
    generalize cs[j]=c at hr
    have e1:aD ((cs.take (j+1)).map (·.1))=aD ((cs.take j).map (·.1))++ [cH c.1]:=by
      rw [ju hr,List.map_append,←pQ];rfl
    have hA:(aD ((cs.take j).map (·.1))).length≤j:=by rw [cc,List.length_map,List.length_take];omega
    generalize eA:aD ((cs.take j).map (·.1))=A at e1 hA
    refine bF ac aa ai ag (yx (cs.map aj) A (A++ [cH c.1]) .none c.1.1 c.1.2 c.2.1 c.2.2 j (A.length+1) [(A.length+1,2,true)] _) ?_
    refine bp (decide_eq_true (by rw [hlen];omega)) ⟨wC 6 8 rfl hr, ?_, ?_⟩
    · exact GX.app (T:=⟨_, [(A.length,2,true)]⟩) (k:=0) (bn:=true) (es:=A) (es2:= [cH c.1]) rfl rfl (by simp only [List.length_cons,List.length_nil];omega)
    · rw [g7 (by omega)]
      refine ⟨rfl,rfl,j+1,hlt,by show cs.length-(j+1)<cs.length-j;omega, .inr ⟨?_, ?_⟩⟩
      · show _=qK (aD ((cs.take (j+1)).map (·.1))).length
        rw [e1,show (A++ [cH c.1]).length=A.length+1 by simp];rfl
      · show _=nr _ _ (aD ((cs.take (j+1)).map (·.1))) _
        have h2:bf (au 0) (au 1) (A++ [cH c.1])=A++ [cH c.1]:=by rw [←e1,cL]
        rw [e1]
        simp only [nr,av,TV.ren,bk,Tok.ren,h2,show (A++ [cH c.1]).length=A.length+1 by simp];rfl
  · obtain rfl:j=cs.length:=by omega
    refine bF ac aa ai ag (yx (cs.map aj) (aD ((cs.take cs.length).map fun c:Ch=>c.1)) [] .none 0 0 dj true cs.length 0 [] _) (aX (decide_eq_false (by rw [hlen];omega)) ?_)
    rw [List.take_length]
    exact ⟨rfl,rfl,rfl,by simp only [nr,hlen],rfl⟩
theorem EQ {cs:List Ch} (hl:cs.length≤1000000):VCx Try.prog ae 0 nq [.vec 8 (cs.map aj) .none] ⟨[], []⟩ fun x T' =>x= .vec 2 (aD (cs.map (·.1))) .none∧T' =⟨[], []⟩:=by
 refine VCx.toLe (Q:=fun T' =>T' =⟨[], []⟩) (VCx.keepQ 0 0 (Nat.le_refl _) (Nat.le_refl _) (ah ac aa ai (bw fun p hp=> ?_) (FW (cs.map aj) (aD (cs.map (·.1))) .none _) ⟨rfl,⟨rfl,rfl,rfl,⟨rfl,trivial⟩,rfl,rfl,rfl⟩, ?_,rfl⟩))
 ·obtain rfl:=List.mem_singleton.1 hp
  exact bL (CJ hl)
 ·simp only [TV.ren,cL]
  exact .vec 2 _ _
theorem ER (l:Bs):∀ro ys T K,EB l ro ys T K→VCx Try.prog ae ro nq ys T K:=by
 intro ro ys T K h
 unfold EB at h
 split at h
 ·obtain ⟨⟨cs,rfl,hl,rfl⟩,hk⟩:=h
  exact VCx.loosePure am (EQ hl) (by simp [b9]) (by simp only [av,TV.ren,bk,Tok.ren]) (fun _ _=>by simp only [TV.ren,cL,Tok.ren]) hk
 ·exact h.elim
theorem mp (u:UpV) (f g:Nat→Option Nat):av f g u.cells=u.cells:=by
 simp only [UpV.cells,av,TV.ren,cL,dA,Tok.ren]
theorem ES {cs:List Ch} (hl:cs.length≤1000000) (hne:cs≠ []):VCx Try.prog ae 0 tc [.vec 8 (cs.map aj) .none] ⟨[], []⟩ fun x T' =>x= .agg (cq cs).cells∧T' =⟨[], []⟩:=by
 refine VCx.toLe (Q:=fun T' =>T' =⟨[], []⟩) (VCx.keepQ 0 0 (Nat.le_refl _) (Nat.le_refl _) ?_)
 cases cs with
 | nil=>exact absurd rfl hne
 | cons c cs=>
  refine ah ac aa (az fun p hp=>by obtain rfl:=List.mem_singleton.1 hp;exact ER _) ag (FX ((c::cs).map aj) (aD ((c::cs).map (·.1))) .none c.1.1 c.1.2 c.2.1 c.2.2 _) ⟨tj 3, ?_⟩
  have hof:cq (c::cs)=bif c.2.2 then ⟨(c::cs).map (·.1),dj, []⟩ else ⟨[],c.2.1,(c::cs).map (·.1)⟩:=rfl
  refine bq (fun hg=> ?_) (fun hg=> ?_)
  ·rw [hg,cond_true] at hof
   refine ⟨⟨c::cs,rfl,hl,rfl⟩, ?_,rfl⟩
   rw [hof]
   simp only [TV.ren,av,cL]
   exact .agg ⟨.vec 2 _ _, .refl _, .nil 1, .refl _, .refl _, .refl _, .nil 2,trivial⟩
  ·rw [hg,cond_false] at hof
   refine ⟨tj 10,⟨c::cs,rfl,hl,rfl⟩,⟨rfl,trivial⟩, ?_,rfl⟩
   rw [hof]
   simp only [TV.ren,av,cL,dA]
   exact .agg ⟨.nil 2, .refl _, .vec 1 _ _, .refl _, .refl _, .refl _, .vec 2 _ _,trivial⟩
theorem yC (w:Bs) (x:AtV) (n:Bs):∀ro ys T K,yu w x n ro ys T K→VCx Try.prog ae ro tc ys T K:=by
 intro ro ys T K h
 unfold yu at h
 split at h
 ·obtain ⟨⟨cs,rfl,hne,hl,rfl,rfl,rfl⟩,hk⟩:=h
  exact VCx.loosePure am (ES hl hne) (by simp [b9]) (by simp only [av,TV.ren,bk,Tok.ren]) (fun _ _=>by simp only [TV.ren,mp]) hk
 ·exact h.elim
end
section
open Go.RowKit
set_option maxRecDepth 100000

theorem ET (b:Bool):∀ro ys T K,EH b ro ys T K→VCx Try.prog ae ro Gp ys T K:=by
 intro ro ys T K h
 unfold EH at h
 split at h
 ·obtain ⟨⟨u,rfl,hu,rfl⟩,hk⟩:=h
  exact VCx.liftPure am (Ea hu) (by simp only [av,TV.ren,mp]) (fun _ _=>rfl) hk
 ·exact h.elim
theorem EU (b:Bs):∀ro ys T K,EI b ro ys T K→VCx Try.prog ae ro Gq ys T K:=by
 intro ro ys T K h
 unfold EI at h
 split at h
 ·obtain ⟨⟨u,rfl,hu,hg,rfl⟩,hk⟩:=h
  exact VCx.liftPure am (Ec hu hg) (by simp only [av,TV.ren,mp]) (fun _ _=>by simp only [TV.ren,(yi hu hg).ren,Tok.ren]) hk
 ·exact h.elim
theorem EV {u:UpV} (hu:jE u):VCx Try.prog ae 0 Bb [.agg u.cells] ⟨[], []⟩ fun x T' =>x= .val (.int .i64 (jk u))∧T' =⟨[], []⟩:=by
  refine VCx.keepQ 0 0 (Nat.le_refl _) (Nat.le_refl _) (ah ac aa (az fun p hp=> ?_) ag (F2 (aD u.w) (aD u.n) (l9 u) u.a (fC u) _) ⟨⟨u,rfl,hu,rfl⟩, ?_⟩)
  · rcases List.mem_cons.1 hp with rfl | hp;exact ET _
    obtain rfl:=List.mem_singleton.1 hp;exact EU _
  · unfold jk
    cases hg:fC u with
    | false=>exact ⟨rfl,rfl⟩
    | true=>exact ⟨⟨u,rfl,hu,hg,rfl⟩,rfl,rfl⟩
theorem EW (z:Int):∀ro ys T K,EJ z ro ys T K→VCx Try.prog ae ro Bb ys T K:=by
 intro ro ys T K h
 unfold EJ at h
 split at h
 ·obtain ⟨⟨u,rfl,hu,rfl⟩,hk⟩:=h
  exact VCx.liftPure am (EV hu) (by simp only [av,TV.ren,mp]) (fun _ _=>rfl) hk
 ·exact h.elim
theorem EX {cs:List Ch} (h:CsOk cs):jE (cq cs):=by
 cases cs with
 | nil=>exact ⟨by simp [cq],by simp [cq],by simp [cq,dj],by simp [cq,dj],by simp [cq,dj]⟩
 | cons c cs=>
  have h1:=h.few
  have h2:=h.at' c List.mem_cons_self
  have hof:cq (c::cs)=bif c.2.2 then ⟨(c::cs).map (·.1),dj, []⟩ else ⟨[],c.2.1,(c::cs).map (·.1)⟩:=rfl
  have hl:((c::cs).map fun c:Ch=>c.1).length≤50000:=by rw [List.length_map];exact h1
  rw [hof]
  cases c.2.2 with
  | true=>exact ⟨hl,Nat.zero_le _,Nat.zero_le _,Int.le_refl 0,(by decide:(0:Int)<4294967296)⟩
  | false=>exact ⟨Nat.zero_le _,hl,h2.1,h2.2.1,h2.2.2⟩
theorem yD (f g:Nat→Option Nat):VO.ren f g jp=jp:=rfl
theorem EY {cs:List Ch} (h:CsOk cs) (hne:cs≠ []):VCx Try.prog ae 0 td [.vec 8 (cs.map aj) .none, .ptr 0 0] ⟨[jp], []⟩ fun x T' =>x= .val (.bool (bo cs))∧T' =⟨[jp], []⟩:=by
 have h1:=h.few
 refine VCx.keepQ 1 0 (Nat.le_refl _) (Nat.le_refl _) (ah ac aa (az fun p hp=> ?_) ag (FY (cs.map aj) (aD (cq cs).w) (aD (cq cs).n) .none (cq cs).a (jk (cq cs)) _) ⟨⟨cs,rfl,hne,by omega,rfl,rfl,rfl⟩,⟨cq cs,rfl,EX h,rfl⟩,rfl,rfl⟩)
 rcases List.mem_cons.1 hp with rfl | hp;exact yC _ _ _
 obtain rfl:=List.mem_singleton.1 hp;exact EW _
theorem EZ (b:Bool):∀ro ys T K,Bd b ro ys T K→VCx Try.prog ae ro td ys T K:=by
 intro ro ys T K h
 unfold Bd at h
 split at h
 ·rename_i l tok i
  obtain ⟨⟨hro,ho,cs,rfl,hne,hc,rfl⟩,hk⟩:=h
  refine VCx.atKeep (R:=fun x=>x= .val (.bool (bo cs))) (ys1:= [.vec 8 (cs.map aj) .none, .ptr 0 0]) am (Nat.le_of_ble_eq_true hro) ho rfl yD ?_ (EY hc hne) (fun x hx=>by subst hx;exact ⟨fun _ _=>rfl,hk⟩)
  refine ⟨?_, .of_eq ?_,trivial⟩
  ·simp only [TV.ren,bk]
   exact .vec 8 _ _
  ·simp [TV.ren,aP]
 ·exact h.elim
theorem pW (may:List Ch→Bool) (l:List Ch):∀f n,n≤jG may l f n∧(n≤l.length→jG may l f n≤l.length)
 | 0,n=>⟨Nat.le_refl _,fun h=>h⟩
 | f+1,n=>by
  unfold jG
  cases hb:decide (n<l.length)&&may (l.take (n+1)) with
  | false=>exact ⟨Nat.le_refl _,fun h=>h⟩
  | true=>
   simp only [Bool.and_eq_true,decide_eq_true_eq] at hb
   have:=pW may l f (n+1)
   exact ⟨Nat.le_trans (Nat.le_succ n) this.1,fun h=>this.2 hb.1⟩
theorem iQ (may:List Ch→Bool) (l:List Ch):1≤bH may l:=(pW may l _ _).1
theorem CL {may:List Ch→Bool} {l:List Ch} (h:l≠ []):bH may l≤l.length:=(pW may l _ _).2 (List.length_pos_iff.2 h)
theorem fR (may:List Ch→Bool) (f:Nat):c9 may f []= []:=by cases f<;>rfl
theorem nt (may:List Ch→Bool):∀(f g:Nat) (l:List Ch),l.length≤f→l.length≤g→c9 may f l=c9 may g l
 | 0,g,l,h,_=>by
  obtain rfl:l= []:=List.eq_nil_of_length_eq_zero (by omega)
  rw [fR,fR]
 | f+1,0,l,_,h=>by
  obtain rfl:l= []:=List.eq_nil_of_length_eq_zero (by omega)
  rw [fR,fR]
 | f+1,g+1, [],_,_=>rfl
 | f+1,g+1,c::l,h1,h2=>by
  have h3:=iQ may (c::l)
  have h4:((c::l).drop (bH may (c::l))).length≤l.length:=by rw [List.length_drop,List.length_cons];omega
  simp only [List.length_cons] at h1 h2
  show _::c9 may f _=_::c9 may g _
  rw [nt may f g _ (by omega) (by omega)]
theorem tR {l:List Ch} (h:l≠ []):aB l=l.take (bH bo l)::aB (l.drop (bH bo l)):=by
 cases l with
 | nil=>exact absurd rfl h
 | cons c l=>
  have h3:=iQ bo (c::l)
  have h4:((c::l).drop (bH bo (c::l))).length≤l.length:=by rw [List.length_drop,List.length_cons];omega
  unfold aB
  rw [←nt bo l.length _ _ h4 (Nat.le_refl _)]
  rfl
theorem wD:aB []= []:=rfl
theorem CsOk.sub {cs ds:List Ch} (h:CsOk cs) (hl:ds.length≤cs.length) (hs:∀c∈ds,c∈cs):CsOk ds:=⟨Nat.le_trans hl h.few,fun c hc=>h.at' c (hs c hc)⟩
theorem CsOk.take {cs:List Ch} (h:CsOk cs) (n:Nat):CsOk (cs.take n):=h.sub (List.length_take_le' n cs) fun _ hc=>List.mem_of_mem_take hc
theorem CsOk.drop {cs:List Ch} (h:CsOk cs) (n:Nat):CsOk (cs.drop n):=h.sub (by rw [List.length_drop];omega) fun _ hc=>List.mem_of_mem_drop hc
theorem nu (cs:List Ch) (n:Nat):(cs.map aj).take n=(cs.take n).map aj:=List.map_take.symm
theorem tS (cs:List Ch) (n:Nat):(cs.map aj).drop n=(cs.drop n).map aj:=List.map_drop.symm
theorem E0 (b:Bool):aZ Try.prog ae (aw [(td,Bd b)]):=az fun p hp=>by obtain rfl:=List.mem_singleton.1 hp;exact EZ b
theorem CM {l:List Ch} (h:CsOk l) (hne:l≠ []) (o:Bs) (K:KX) (hK:K .normal (aq 35 ns (mn (l.map aj) .none o (bH bo l:Nat))) (fQ o.length) []):
    VWx Try.prog ae none 0 (ar Try.prog fW 2) (aq 35 ns (mn (l.map aj) .none o 1)) (fQ o.length) [] K:=by
  have hlen:=ik l
  have hf:=h.few
  refine di (f:=fW) (id:=2) (by kernel_rfl) 35 ns (fun k:Nat=>l.length-k) (fun k:Nat=>mn (l.map aj) .none o (k:Int)) (fun _=>fQ o.length) (fun k=>1≤k∧k≤l.length∧jG bo l (l.length+1-k) k=bH bo l) 1 1 (fun j _=>⟨Nat.le_refl _,Nat.le_refl _⟩)
    (fun e vs T=>e= .normal∧vs=mn (l.map aj) .none o (bH bo l:Nat)∧T=fQ o.length) (fun k ⟨h1,h2,h3⟩=> ?_) 1 ⟨Nat.le_refl _,List.length_pos_iff.2 hne,rfl⟩ K ?_
  rotate_left
  · rintro e vs T ⟨rfl,rfl,rfl⟩
    exact hK
  rw [show l.length+1-k=(l.length-k)+1 by omega] at h3
  unfold jG at h3
  refine bF ac aa (E0 (bo (l.take (k+1)))) ag (yz (l.map aj) ((l.take (k+1)).map aj) o .none k (bo (l.take (k+1))) _) ?_
  by_cases hlt:k<l.length
  · rw [decide_eq_true hlt,Bool.true_and] at h3
    rw [g7 (by omega)]
    refine bp (decide_eq_true (by rw [hlen];omega)) ⟨?_,⟨rfl,rfl,l.take (k+1),rfl, ?_,h.take _,rfl⟩, ?_⟩
    · have:=mg.hi (G:=ae) (es:=l.map aj) (tok:= .none) (x:=16) (i:=18) (j:=k+1) rfl (by omega)
      rw [nu] at this
      exact this
    · intro e
      have:=congrArg List.length e
      rw [List.length_take,List.length_nil] at this
      omega
    · refine bq (fun hb=> ?_) (fun hb=> ?_)
      · rw [hb,cond_true] at h3
        exact ⟨rfl,rfl,k+1,⟨by omega,hlt,by rw [show l.length+1-(k+1)=l.length-k by omega];exact h3⟩,by show l.length-(k+1)<l.length-k;omega, .inl ⟨rfl,rfl⟩⟩
      · rw [hb,cond_false] at h3
        exact ⟨rfl,rfl,rfl,by rw [←h3];rfl,rfl⟩
  · rw [decide_eq_false hlt,Bool.false_and,cond_false] at h3
    refine aX (decide_eq_false (by rw [hlen];omega)) ?_
    exact ⟨rfl,rfl,rfl,by rw [←h3];rfl,rfl⟩
theorem AC (o:Bs) (K:KX) (hK:K .normal (aq 35 ns (mn [] .none o (bH bo []:Nat))) (fQ o.length) []):
    VWx Try.prog ae none 0 (ar Try.prog fW 2) (aq 35 ns (mn [] .none o 1)) (fQ o.length) [] K:=by
  refine di (f:=fW) (id:=2) (by kernel_rfl) 35 ns (fun _:Unit=>0) (fun _=>mn [] .none o 1) (fun _=>fQ o.length) (fun _=>True) 1 1 (fun j _=>⟨Nat.le_refl _,Nat.le_refl _⟩)
    (fun e vs T=>e= .normal∧vs=mn [] .none o (bH bo []:Nat)∧T=fQ o.length) (fun k _=> ?_) () trivial K ?_
  rotate_left
  · rintro e vs T ⟨rfl,rfl,rfl⟩
    exact hK
  exact bF ac aa (E0 true) ag (yz [] [] o .none 1 true _) (aX rfl ⟨rfl,rfl,rfl,rfl,rfl⟩)
def cf (l:List Ch):List TV:= [.vec 8 (l.map aj) .none]
theorem Gt:RowI Try.prog 133 48 1:=⟨Try.underlying133,⟨(Try.prog.info? 48).getD default,((Try.prog.info? 48).getD default).zero.getD default,by kernel_rfl,by kernel_rfl,Nat.le_of_ble_eq_true (by kernel_rfl),by kernel_rfl,by kernel_rfl⟩,by omega⟩
theorem CN {cs:List Ch} (h:CsOk cs) (K:KX) (hK:K .normal (aq 35 th (o6 [] .none ((aB cs).map cf))) (fQ ((aB cs).map cf).length) []):
    VWx Try.prog ae none 0 (ar Try.prog fW 0) (aq 35 th (o6 (cs.map aj) .none [])) (fQ 0) [] K:=by
  refine di (f:=fW) (id:=0) (by kernel_rfl) 35 th (fun s:List (List Ch) × List Ch=>s.2.length) (fun s=>o6 (s.2.map aj) .none (s.1.map cf)) (fun s=>fQ (s.1.map cf).length) (fun s=>s.1++aB s.2=aB cs∧CsOk s.2∧s.1.length+s.2.length≤50000) 1 1 (fun j _=>⟨Nat.le_refl _,Nat.le_refl _⟩)
    (fun e vs T=>e= .normal∧vs=o6 [] .none ((aB cs).map cf)∧T=fQ ((aB cs).map cf).length) (fun s ⟨h1,h2,h3⟩=> ?_) ([],cs) ⟨rfl,h,by have:=h.few;simpa using this⟩ K ?_
  rotate_left
  · rintro e vs T ⟨rfl,rfl,rfl⟩
    exact hK
  obtain ⟨d,l⟩:=s
  simp only at h1 h2 h3
  have hlen:=ik l
  have hdl:(d.map cf).length=d.length:=List.length_map _
  by_cases hne:l= []
  · subst hne
    refine bF ac aa ai (bw fun p hp=> ?_) (yy [] [] [] (d.map cf) [] .none (bH bo []) 0 [] _) (aX rfl ?_)
    · obtain rfl:=List.mem_singleton.1 hp
      exact bL (AC _)
    · rw [wD,List.append_nil] at h1
      rw [←h1]
      exact ⟨rfl,rfl,rfl,rfl,rfl⟩
  · have hpos:=List.length_pos_iff.2 hne
    have he:=iQ bo l
    have he2:=CL (may:=bo) hne
    have e2:(d++ [l.take (bH bo l)]).map cf=d.map cf++ [cf (l.take (bH bo l))]:=by rw [List.map_append];rfl
    have e3:((d++ [l.take (bH bo l)]).map cf).length=(d.map cf).length+1:=by rw [e2];simp
    refine bF ac aa ai (bw fun p hp=> ?_) (yy (l.map aj) ((l.drop (bH bo l)).map aj) ((l.take (bH bo l)).map aj) (d.map cf) ((d++ [l.take (bH bo l)]).map cf) .none (bH bo l) ((d.map cf).length+1) [((d.map cf).length+1,1,true)] _) (bp (decide_eq_true (by rw [hlen];omega)) ⟨rfl,⟨rfl,rfl,rfl,trivial,rfl,rfl,rfl⟩, ?_, ?_, ?_, ?_⟩)
    · obtain rfl:=List.mem_singleton.1 hp
      exact bL (CM h2 hne _)
    · have:=mg.hm (G:=ae) (es:=l.map aj) (tok:= .none) (x:=25) (i:=26) (k:=27) (j:=bH bo l) rfl rfl rfl (by omega)
      rw [nu] at this
      exact this
    · have:=mg.lo (G:=ae) (es:=l.map aj) (tok:= .none) (x:=31) (i:=32) (j:=bH bo l) rfl (by omega)
      rw [tS] at this
      exact this
    · have:=Gt.app (G:=ae) (T:=⟨[jp], [((d.map cf).length,1,true)]⟩) (k:=0) (bn:=true) (es:=d.map cf) (es2:= [cf (l.take (bH bo l))]) (tok:= .full) (s:=24) (x:=29) rfl rfl (by simp only [List.length_cons,List.length_nil];omega)
      rw [e2]
      exact this
    · refine ⟨rfl,rfl,(d++ [l.take (bH bo l)],l.drop (bH bo l)),⟨?_,h2.drop _, ?_⟩, ?_, .inl ⟨?_, ?_⟩⟩
      · rw [←h1,tR hne];simp
      · simp only [List.length_append,List.length_cons,List.length_nil,List.length_drop];omega
      · show (l.drop (bH bo l)).length<l.length
        rw [List.length_drop];omega
      · show _=fQ ((d++ [l.take (bH bo l)]).map cf).length
        rw [e3];rfl
      · show _=o6 _ _ ((d++ [l.take (bH bo l)]).map cf)
        unfold o6
        rw [e3];rfl
end
section
open Go.RowKit
set_option maxRecDepth 100000

theorem E1 {cs:List Ch} (h:CsOk cs):VCx Try.prog ae 0 fW [.vec 8 (cs.map aj) .none,uV] ⟨[jp], []⟩ fun x T' =>x= .vec 1 ((aB cs).map cf) .none∧T' =⟨[jp], []⟩:=by
  refine VCx.toLe (Q:=fun T' =>T' =⟨[jp], []⟩) (VCx.keepQ 1 0 (Nat.le_refl _) (Nat.le_refl _) (ah ac aa ai (bw fun p hp=> ?_) (FZ (cs.map aj) ((aB cs).map cf) .none _) ⟨rfl,⟨rfl,rfl,rfl,⟨rfl,trivial⟩,rfl,rfl,rfl⟩, ?_,rfl⟩))
  · obtain rfl:=List.mem_singleton.1 hp
    exact bL (CN h)
  · have:∀f g,bf f g ((aB cs).map cf)=(aB cs).map cf:=fun f g=>eJ cf (fun l=>by simp only [cf,av,TV.ren,bk,Tok.ren]) _
    simp only [TV.ren,this]
    exact .vec 1 _ _
theorem E2 (f g:Nat→Option Nat) (l:List (List Ch)):bf f g (l.map cf)=l.map cf:=eJ cf (fun l=>by simp only [cf,av,TV.ren,bk,Tok.ren]) _
theorem E3 (c:Bs):∀ro ys T K,EC c ro ys T K→VCx Try.prog ae ro fW ys T K:=by
 intro ro ys T K h
 unfold EC at h
 split at h
 ·rename_i l tok f i
  obtain ⟨⟨rfl,hro,ho,cs,rfl,hc,rfl⟩,hk⟩:=h
  refine VCx.atKeep (R:=fun x=>x=_) (ys1:= [.vec 8 (cs.map aj) .none,uV]) am (Nat.le_of_ble_eq_true hro) ho rfl yD ?_ (E1 hc) (fun x hx=>by subst hx;exact ⟨fun _ _=>by simp only [TV.ren,E2,Tok.ren],hk⟩)
  refine ⟨?_, .of_eq ?_,trivial⟩
  ·simp only [TV.ren,bk]
   exact .vec 8 _ _
  ·simp [TV.ren,av,aP,uV]
 ·exact h.elim
theorem qN (may:List Ch→Bool):∀(f:Nat) (l:List Ch),l.length≤f→(c9 may f l).flatten=l∧(∀c∈c9 may f l,c≠ [])∧(c9 may f l).length≤l.length
  | 0,l,h=>by
    obtain rfl:l= []:=List.eq_nil_of_length_eq_zero (by omega)
    exact ⟨rfl,fun c h=>(by cases h),Nat.le_refl _⟩
  | f+1, [],_=>⟨rfl,fun c h=>(by cases h),Nat.le_refl _⟩
  | f+1,c::l,h=>by
    have h3:=iQ may (c::l)
    have h4:((c::l).drop (bH may (c::l))).length≤l.length:=by rw [List.length_drop,List.length_cons];omega
    simp only [List.length_cons] at h
    obtain ⟨i1,i2,i3⟩:=qN may f ((c::l).drop (bH may (c::l))) (by omega)
    have e:c9 may (f+1) (c::l)=(c::l).take (bH may (c::l))::c9 may f ((c::l).drop (bH may (c::l))):=rfl
    rw [e]
    refine ⟨?_,fun d hd=> ?_, ?_⟩
    · rw [List.flatten_cons,i1,List.take_append_drop]
    · rcases List.mem_cons.1 hd with rfl | hd
      · intro e0
        have:=congrArg List.length e0
        rw [List.length_take,List.length_nil,List.length_cons] at this
        omega
      · exact i2 d hd
    · rw [List.length_cons,List.length_cons];omega
theorem mq (l:List Ch):(aB l).flatten=l∧(∀c∈aB l,c≠ [])∧(aB l).length≤l.length:=qN bo _ l (Nat.le_refl _)
theorem wE {l c:List Ch} (h:c∈aB l):c.length≤l.length:=by
 conv=>rhs;rw [←(mq l).1]
 exact (List.sublist_flatten_of_mem h).length_le
theorem tp (l:List Ch):(bC l).length≤l.length:=by unfold bC;rw [List.length_map];exact (mq l).2.2
theorem Gu:RowI Try.prog 60 65 7:=⟨Try.underlying60,⟨(Try.prog.info? 65).getD default,((Try.prog.info? 65).getD default).zero.getD default,by kernel_rfl,by kernel_rfl,Nat.le_of_ble_eq_true (by kernel_rfl),by kernel_rfl,by kernel_rfl⟩,by omega⟩
theorem fg (f g:Nat→Option Nat) (us:List UpV):bf f g (us.map UpV.cells)=us.map UpV.cells:=eJ UpV.cells (fun u=>mp u f g) us
theorem E4 (w:Bs) (x:AtV) (n:Bs):aZ Try.prog ae (aw [(tc,yu w x n)]):=az fun p hp=>by obtain rfl:=List.mem_singleton.1 hp;exact yC w x n
theorem CO {cs:List Ch} (h:CsOk cs) (K:KX) (hK:K .normal (aq 23 qL (mo ((aB cs).map cf) ((bC cs).map UpV.cells) (((aB cs).map cf).length:Nat))) (o7 ((bC cs).map UpV.cells).length) []):
    VWx Try.prog ae none 0 (ar Try.prog jn 0) (aq 23 qL (mo ((aB cs).map cf) [] 0)) (o7 0) [] K:=by
  have hf:=h.few
  obtain ⟨hfl,hnn,hcl⟩:=mq cs
  have hlen:((aB cs).map cf).length=(aB cs).length:=List.length_map _
  refine di (f:=jn) (id:=0) (by kernel_rfl) 23 qL (fun j:Nat=>(aB cs).length-j) (fun j:Nat=>mo ((aB cs).map cf) ((((aB cs).take j).map cq).map UpV.cells) (j:Int)) (fun j=>o7 ((((aB cs).take j).map cq).map UpV.cells).length) (fun j=>j≤(aB cs).length) 1 1 (fun j _=>⟨Nat.le_refl _,Nat.le_refl _⟩)
    (fun e vs T=>e= .normal∧vs=mo ((aB cs).map cf) ((bC cs).map UpV.cells) (((aB cs).map cf).length:Nat)∧T=o7 ((bC cs).map UpV.cells).length) (fun j hj=> ?_) 0 (Nat.zero_le _) K ?_
  rotate_left
  · rintro e vs T ⟨rfl,rfl,rfl⟩
    exact hK
  by_cases hlt:j<(aB cs).length
  · have hr:=List.getElem?_eq_getElem hlt
    have hm:(aB cs)[j]∈aB cs:=List.getElem_mem hlt
    generalize (aB cs)[j]=c at hr hm
    have e1:(((aB cs).take (j+1)).map cq).map UpV.cells=(((aB cs).take j).map cq).map UpV.cells++ [(cq c).cells]:=by
      rw [ju hr,List.map_append,List.map_append];rfl
    have hA:((((aB cs).take j).map cq).map UpV.cells).length≤j:=by rw [List.length_map,List.length_map,List.length_take];omega
    show VWx _ _ _ _ _ (aq 23 qL (mo ((aB cs).map cf) ((((aB cs).take j).map cq).map UpV.cells) (j:Int))) (o7 ((((aB cs).take j).map cq).map UpV.cells).length) _ _
    generalize eA:(((aB cs).take j).map cq).map UpV.cells=A at e1 hA
    have hcl2:=wE hm
    refine bF ac aa (E4 _ _ _) ag (yA ((aB cs).map cf) A (A++ [(cq c).cells]) (c.map aj) (aD (cq c).w) (aD (cq c).n) (cq c).a j (A.length+1) [(A.length+1,7,true)] _) ?_
    refine bp (decide_eq_true (by rw [hlen];omega)) ⟨Gt.ix rfl (by simp [hr];rfl),⟨c,rfl,hnn c hm,by omega,rfl,rfl,rfl⟩, ?_, ?_⟩
    · exact Gu.app (T:=⟨_, [(A.length,7,true)]⟩) (k:=0) (bn:=true) (es:=A) (es2:= [(cq c).cells]) rfl rfl (by simp only [List.length_cons,List.length_nil];omega)
    · rw [g7 (by omega)]
      have e2:(A++ [(cq c).cells]).length=A.length+1:=by simp
      refine ⟨rfl,rfl,j+1,hlt,by show (aB cs).length-(j+1)<(aB cs).length-j;omega, .inl ⟨?_, ?_⟩⟩
      · show _=o7 ((((aB cs).take (j+1)).map cq).map UpV.cells).length
        rw [e1,e2];rfl
      · show _=mo _ ((((aB cs).take (j+1)).map cq).map UpV.cells) _
        rw [e1];unfold mo;rw [e2]
  · obtain rfl:j=(aB cs).length:=by omega
    have hu:(((aB cs).take (aB cs).length).map cq).map UpV.cells=(bC cs).map UpV.cells:=by rw [List.take_length];rfl
    rw [hu]
    refine bF ac aa (E4 _ _ _) ag (yA ((aB cs).map cf) ((bC cs).map UpV.cells) [] [] [] [] dj (aB cs).length 0 [] _) (aX (decide_eq_false (by rw [hlen];omega)) ?_)
    exact ⟨rfl,rfl,rfl,by simp only [mo,hlen],rfl⟩
theorem yE {cs:List Ch} (h:CsOk cs):VCx Try.prog ae 0 jn [.vec 8 (cs.map aj) .none] ⟨[], []⟩ fun x T' =>x= .vec 7 ((bC cs).map UpV.cells) (.tail 0 ((bC cs).map UpV.cells).length)∧T' =⟨[], [(((bC cs).map UpV.cells).length,7,true)]⟩:=by
 refine VCx.keepQ 0 1 (Nat.le_refl _) (Nat.zero_le _) (ah ac aa (az fun p hp=> ?_) (bw fun p hp=> ?_) (F0 (cs.map aj) ((aB cs).map cf) ((bC cs).map UpV.cells) .none _) ⟨⟨rfl,rfl,rfl,cs,rfl,h,rfl⟩,rfl,⟨rfl,rfl,rfl,⟨rfl,trivial⟩,rfl,rfl,rfl⟩, ?_,rfl⟩)
 ·obtain rfl:=List.mem_singleton.1 hp;exact E3 _
 ·obtain rfl:=List.mem_singleton.1 hp
  exact bL (CO h)
 ·simp only [TV.ren,fg,Tok.ren];rfl
theorem E5 (u:Bs):∀ro ys T K,EE u ro ys T K→VCx Try.prog ae ro jn ys T K:=by
 intro ro ys T K h
 unfold EE at h
 split at h
 ·obtain ⟨⟨rfl,cs,rfl,hc,rfl⟩,hk⟩:=h
  refine VCx.argsLe (xs:= [.vec 8 (cs.map aj) .none]) ⟨.vec 8 _ _,trivial⟩ ?_
  refine (VCx.lift (xs:= [.vec 8 (cs.map aj) .none]) (T:=T) [] [] am List.nodup_nil List.nodup_nil (by simp) (by simp) (by simp) (by simp only [av,TV.ren,bk,Tok.ren]) (by rw [VT.give_nil];exact yE hc) (fun _ _ _=>⟨Nat.zero_le _,Nat.zero_le _⟩)).mono ?_
  rintro z T' ⟨x,T'',⟨rfl,rfl⟩,rfl,rfl⟩
  rw [VT.back_nil]
  simpa [TV.ren,Tok.ren,fg,aI] using hk
 ·exact h.elim
theorem E6 (u:Bs):∀ro ys T K,Bf u ro ys T K→VCx Try.prog ae ro jn ys T K:=by
 intro ro ys T K h
 unfold Bf at h
 split at h
 ·obtain ⟨⟨cs,rfl,hc,rfl⟩,hk⟩:=h
  have hv:VCx Try.prog ae 0 jn [.vec 8 (cs.map aj) .none] ⟨[], []⟩ fun x T' =>x= .vec 7 ((bC cs).map UpV.cells) .none∧T' =⟨[], []⟩:=
   VCx.toLe (Q:=fun T' =>T' =⟨[], []⟩) (VCx.keepQ 0 0 (Nat.le_refl _) (Nat.le_refl _) ((yE hc).mono fun x T' ⟨h1,h2⟩=>by
    subst h1 h2
    refine ⟨?_,rfl⟩
    simp only [TV.ren,fg]
    exact .vec 7 _ _))
  exact VCx.loosePure am hv (by simp [b9]) (by simp only [av,TV.ren,bk,Tok.ren]) (fun _ _=>by simp only [TV.ren,fg,Tok.ren]) hk
 ·exact h.elim
theorem eG (f:Nat):jm f []= []:=by cases f<;>rfl
theorem nV (c:Ch) (l:List Ch) (f:Ch→Bool) (hf:f c=true):((c::l).filter fun x=> !f x).length≤l.length∧((c::l).filter f).length+((c::l).filter fun x=> !f x).length=(c::l).length:=by
 have h1:((c::l).filter f).length+((c::l).filter fun x=> !f x).length=(c::l).length:=by
  have:∀m:List Ch,(m.filter f).length+(m.filter fun x=> !f x).length=m.length:=fun m=>by
   induction m with
   | nil=>rfl
   | cons a m ih=>
    rw [List.filter_cons,List.filter_cons]
    cases f a<;>simp<;>omega
  exact this _
 refine ⟨?_,h1⟩
 rw [List.filter_cons]
 simp only [hf,Bool.not_true,Bool.false_eq_true,if_false]
 exact List.length_filter_le _ _
theorem g8:∀(f g:Nat) (l:List Ch),l.length≤f→l.length≤g→jm f l=jm g l
 | 0,g,l,h,_=>by
  obtain rfl:l= []:=List.eq_nil_of_length_eq_zero (by omega)
  rw [eG,eG]
 | f+1,0,l,_,h=>by
  obtain rfl:l= []:=List.eq_nil_of_length_eq_zero (by omega)
  rw [eG,eG]
 | f+1,g+1, [],_,_=>rfl
 | f+1,g+1,c::l,h1,h2=>by
  have h3:=(nV c l (fun x=>decide (x.2.1=c.2.1)) (by simp)).1
  simp only [List.length_cons] at h1 h2
  show _++jm f _=_++jm g _
  rw [g8 f g _ (by omega) (by omega)]
def cS (l:List Ch):List UpV:=jm l.length l
theorem pf (c:Ch) (l:List Ch):cS (c::l)=bC ((c::l).filter fun x=>decide (x.2.1=c.2.1))++cS ((c::l).filter fun x=> !decide (x.2.1=c.2.1)):=by
 have h3:=(nV c l (fun x=>decide (x.2.1=c.2.1)) (by simp)).1
 unfold cS
 rw [←g8 l.length _ _ h3 (Nat.le_refl _)]
 rfl
theorem CsOk.filter {cs:List Ch} (h:CsOk cs) (f:Ch→Bool):CsOk (cs.filter f):=h.sub (List.length_filter_le f cs) fun _ hc=>(List.mem_filter.1 hc).1
theorem E7 (x:AtV) (a b u:Bs):aZ Try.prog ae (aw [(e6,Be x a b),(jn,Bf u)]):=az fun p hp=>by
 rcases List.mem_cons.1 hp with rfl | hp;exact EP _ _ _
 obtain rfl:=List.mem_singleton.1 hp;exact E6 _
theorem CP {cs:List Ch} (h:CsOk cs) {u0:List UpV} (hu0:u0.length+cs.length≤50000) (K:KX) (hK:K .normal (aq 34 ti (o8 [] ((u0++cS cs).map UpV.cells))) (qM ((u0++cS cs).map UpV.cells).length) []):
    VWx Try.prog ae none 0 (ar Try.prog mm 0) (aq 34 ti (o8 (cs.map aj) (u0.map UpV.cells))) (qM (u0.map UpV.cells).length) [] K:=by
  refine di (f:=mm) (id:=0) (by kernel_rfl) 34 ti (fun s:List Ch × List UpV=>s.1.length) (fun s=>o8 (s.1.map aj) (s.2.map UpV.cells)) (fun s=>qM (s.2.map UpV.cells).length) (fun s=>s.2++cS s.1=u0++cS cs∧CsOk s.1∧s.2.length+s.1.length≤50000) 0 1 (fun j _=>⟨Nat.le_refl _,Nat.le_refl _⟩)
    (fun e vs T=>e= .normal∧vs=o8 [] ((u0++cS cs).map UpV.cells)∧T=qM ((u0++cS cs).map UpV.cells).length) (fun s ⟨h1,h2,h3⟩=> ?_) (cs,u0) ⟨rfl,h,hu0⟩ K ?_
  rotate_left
  · rintro e vs T ⟨rfl,rfl,rfl⟩
    exact hK
  obtain ⟨l,us⟩:=s
  simp only at h1 h2 h3
  have hul:(us.map UpV.cells).length=us.length:=List.length_map _
  cases l with
  | nil=>
    refine bF ac aa (E7 dj [] [] []) ag (yB [] [] [] (us.map UpV.cells) [] [] 0 0 dj true 0 [] _) (aX rfl ?_)
    have:us=u0++cS cs:=by rw [←h1];simp [cS,eG]
    rw [←this]
    exact ⟨rfl,rfl,rfl,rfl,rfl⟩
  | cons c l=>
    have hlen:=ik (c::l)
    obtain ⟨f1,f2⟩:=nV c l (fun x=>decide (x.2.1=c.2.1)) (by simp)
    have hpc:=pf c l
    generalize hA:((c::l).filter fun x=>decide (x.2.1=c.2.1))=A at f2 hpc
    generalize hB:((c::l).filter fun x=> !decide (x.2.1=c.2.1))=B at f1 f2 hpc
    have hul2:=tp A
    have e2:(us++bC A).map UpV.cells=us.map UpV.cells++(bC A).map UpV.cells:=List.map_append
    have hcu:((bC A).map UpV.cells).length=(bC A).length:=List.length_map _
    simp only [List.length_cons] at h3 f2
    refine bF ac aa (E7 c.2.1 (A.map aj) (B.map aj) ((bC A).map UpV.cells)) ag (yB ((c::l).map aj) (A.map aj) (B.map aj) (us.map UpV.cells) ((bC A).map UpV.cells) ((us++bC A).map UpV.cells) c.1.1 c.1.2 c.2.1 c.2.2 ((us.map UpV.cells).length+((bC A).map UpV.cells).length) [((us.map UpV.cells).length+((bC A).map UpV.cells).length,7,true)] _)
      (bp (decide_eq_true (by rw [hlen,List.length_cons];omega)) ⟨tj 19,⟨rfl,rfl,rfl,c::l,rfl,h2,(h2.at' c List.mem_cons_self).1,by rw [hA],by rw [hB]⟩,⟨A,rfl,hA▸h2.filter _,rfl⟩, ?_, ?_⟩)
    · rw [e2]
      exact Gu.app (T:=⟨_, [((us.map UpV.cells).length,7,true)]⟩) (k:=0) (bn:=true) (es:=us.map UpV.cells) (es2:=(bC A).map UpV.cells) rfl rfl (by omega)
    · have e3:((us++bC A).map UpV.cells).length=(us.map UpV.cells).length+((bC A).map UpV.cells).length:=by rw [e2,List.length_append]
      refine ⟨rfl,rfl,(B,us++bC A),⟨?_, ?_, ?_⟩, ?_, .inr ⟨?_, ?_⟩⟩
      rotate_left
      · show CsOk B
        rw [←hB];exact h2.filter _
      rotate_right
      · show (us++bC A)++cS B=_
        rw [←h1,hpc,List.append_assoc]
      · show (us++bC A).length+B.length≤50000
        rw [List.length_append];omega
      · show B.length<(c::l).length
        rw [List.length_cons];omega
      · show _=qM ((us++bC A).map UpV.cells).length
        rw [e3];rfl
      · show _=o8 (B.map aj) ((us++bC A).map UpV.cells)
        unfold o8
        rw [e3]
        simp only [av,TV.ren,bk,fg,Tok.ren];rfl
def pX:Bs→List Int
 | []=> []
 | [.val (.int _ z)]::l=>z::pX l
 | _::l=>pX l
theorem uW:∀l:List Int,pX (iV l)=l
 | []=>rfl
 | a::l=>by
  have:=uW l
  simp only [iV,List.map_cons] at this ⊢
  show a::pX _=_
  rw [this]
def AD:List TV→Ch
 | [.val (.int _ a), .val (.int _ n), .val (.int _ o), .vec _ p _, .val (.int _ h), .val (.int _ m), .val (.bool hm), .val (.bool g)]=>((a,n),⟨o,pX p,h,m,hm⟩,g)
 | _=>((0,0),dj,false)
theorem AE (c:Ch):AD (aj c)=c:=by
 obtain ⟨⟨a,n⟩,⟨o,p,h,m,hm⟩,g⟩:=c
 show ((a,n),(⟨o,pX (iV p),h,m,hm⟩:AtV),g)=_
 rw [uW]
theorem AF (cs:List Ch):(cs.map aj).map AD=cs:=by
 rw [List.map_map]
 conv=>rhs;rw [←List.map_id cs]
 exact List.map_congr_left fun c _=>AE c
def Bj (l:Bs):Bs:=(bh (l.map AD)).map aj
theorem yF (cs:List Ch):Bj (cs.map aj)=(bh cs).map aj:=by unfold Bj;rw [AF]
theorem E8:∀ro ys T K,EF Bj ro ys T K→VCx Try.prog ae ro dD ys T K:=by
 intro ro ys T K h
 unfold EF at h
 split at h
 ·obtain ⟨⟨cs,rfl,hc⟩,hk⟩:=h
  have hf:=hc.few
  rw [yF] at hk
  exact VCx.loosePure am (yr (by omega) (fun c h=>(hc.at' c h).1) .none) (by simp [b9]) (by simp only [av,TV.ren,bk,Tok.ren]) (fun _ _=>by simp only [TV.ren,bk,Tok.ren]) hk
 ·exact h.elim
theorem nW {cs:List Ch} {c:Ch}:c∈bh cs ↔ c∈aJ cs cs.length:=by
 unfold bh
 rw [List.mem_map]
 constructor
 ·rintro ⟨p,hp,rfl⟩
  have hp:p∈fe cs:=(List.mergeSort_perm _ _).mem_iff.1 hp
  unfold fe at hp
  obtain ⟨d,hd,rfl⟩:=List.mem_map.1 hp
  unfold ml
  rw [pU hd]
  exact hd
 ·intro h
  refine ⟨c.1,(List.mergeSort_perm _ _).mem_iff.2 (List.mem_map_of_mem h), ?_⟩
  unfold ml
  rw [pU h];rfl
theorem CQ {cs:List Ch} (h:CsOk cs):CsOk (bh cs):=h.sub (by rw [kW];exact mj _) fun c hc=>by
 obtain ⟨i,_,h2,_⟩:=ka.1 (nW.1 hc)
 exact List.mem_of_getElem? h2
theorem E9 {cs:List Ch} (h:CsOk cs):VCx Try.prog ae 0 mm [.vec 8 (cs.map aj) .none] ⟨[], []⟩ fun x T' =>x= .vec 7 ((dO cs).map UpV.cells) .none∧T' =⟨[], []⟩:=by
  have ho:=CQ h
  have hg:dO cs=bC ((bh cs).filter fun c=>c.2.2)++cS ((bh cs).filter fun c=> !c.2.2):=by
    unfold dO cS
    rw [g8 _ _ _ (List.length_filter_le _ _) (Nat.le_refl _)]
  have hul:=tp ((bh cs).filter fun c=>c.2.2)
  have hsum:((bh cs).filter fun c=>c.2.2).length+((bh cs).filter fun c=> !c.2.2).length=(bh cs).length:=by
    have:∀m:List Ch,(m.filter fun c=>c.2.2).length+(m.filter fun c=> !c.2.2).length=m.length:=fun m=>by
      induction m with
      | nil=>rfl
      | cons a m ih=>
        rw [List.filter_cons,List.filter_cons]
        cases a.2.2<;>simp<;>omega
    exact this _
  have hf:=ho.few
  rw [hg]
  refine VCx.toLe (Q:=fun T' =>T' =⟨[], []⟩) (VCx.keepQ 0 0 (Nat.le_refl _) (Nat.le_refl _) (ah ac aa (az fun p hp=> ?_) (bw fun p hp=> ?_) (F1 (cs.map aj) (((bh cs).filter fun c=>c.2.2).map aj) (((bh cs).filter fun c=> !c.2.2).map aj) ((bC ((bh cs).filter fun c=>c.2.2)).map UpV.cells) ((bC ((bh cs).filter fun c=>c.2.2)++cS ((bh cs).filter fun c=> !c.2.2)).map UpV.cells) .none Bj _)
    ⟨⟨cs,rfl,h⟩,⟨rfl,bh cs,yF cs,by omega,rfl,rfl⟩,⟨rfl,_,rfl,ho.filter _,rfl⟩,rfl,⟨rfl,rfl,rfl,trivial,rfl,rfl,rfl⟩, ?_,rfl⟩))
  · rcases List.mem_cons.1 hp with rfl | hp;exact E8
    rcases List.mem_cons.1 hp with rfl | hp;exact EO _ _
    obtain rfl:=List.mem_singleton.1 hp;exact E5 _
  · obtain rfl:=List.mem_singleton.1 hp
    exact bL (CP (ho.filter _) (by omega))
  · simp only [TV.ren,fg]
    exact .vec 7 _ _
theorem yG (u:Bs):∀ro ys T K,Bg u ro ys T K→VCx Try.prog ae ro mm ys T K:=by
 intro ro ys T K h
 unfold Bg at h
 split at h
 ·obtain ⟨⟨cs,hl,hc,rfl⟩,hk⟩:=h
  refine VCx.argsLe (xs:= [.vec 8 (cs.map aj) .none]) ⟨hl _,trivial⟩ ?_
  exact VCx.liftPure am (E9 hc) (by simp only [av,TV.ren,bk,Tok.ren]) (fun _ _=>by simp only [TV.ren,fg,Tok.ren]) hk
 ·exact h.elim
end
section
open Go.RowKit
set_option maxRecDepth 100000

section
variable {us:List UpV} {u:UpV} {tok:Tok} {j:Nat}
end
theorem TVle.vecMem {α:Type} {size:Nat} {f g:α→List TV} {l:List α} (h:∀a∈l,TVleL (f a) (g a)):TVle (.vec size (l.map f) .none) (.vec size (l.map g) .none):=by
  have hf:TVleL (l.map f).flatten (l.map g).flatten:=by
    induction l with
    | nil=>trivial
    | cons a l ih=>
      have:∀{x y u v:List TV},TVleL x y→TVleL u v→TVleL (x++u) (y++v):=by
        intro x
        induction x with
        | nil=>
          intro y u v h1 h2
          cases y with
          | nil=>exact h2
          | cons=>exact h1.elim
        | cons a x ih=>
          intro y u v h1 h2
          cases y with
          | nil=>exact h1.elim
          | cons b y=>exact ⟨h1.1,ih h1.2 h2⟩
      exact this (h a List.mem_cons_self) (ih fun b hb=>h b (List.mem_cons_of_mem _ hb))
  intro gh w u hu
  rcases hu.vec_inv with ⟨rfl,he,_⟩ | ⟨b,o,c,us,rfl,f1,f2,f3,f4,f5,f6,f7,f8⟩ | ⟨a,rfl,he,_⟩
  · have:l= []:=by simpa using he
    subst this;exact .nil trivial
  · have hl:=hf.at.1
    refine .mk_vec (by simp) (by simpa using f1) f2 (fun e he=> ?_) trivial (hf.vrs f5) (fun j hj=>f6 j (by omega)) f7 f8
    obtain ⟨a,ha,rfl⟩:=List.mem_map.1 he
    rw [←(h a ha).at.1]
    exact f3 _ (List.mem_map_of_mem ha)
  · have:l= []:=by simpa using he
    subst this;exact .odd a trivial
end
section
open Go.RowKit

theorem AG {l:List Px} (h:l.Nodup):(gC l).Pairwise c8:=by
 have h1:=sW l
 have h2:(gC l).Nodup:=(List.mergeSort_perm l _).nodup_iff.2 h
 refine List.Pairwise.imp₂ ?_ h1 h2
 intro a b h3 h4
 exact Classical.byContradiction fun hc=>h4 (oZ hc h3)
theorem yH {cs:List Ch} {c:Ch} (h:c∈bh cs):dN c=true:=by
 obtain ⟨i,_,h2,h3⟩:=ka.1 (nW.1 h)
 obtain ⟨_,d,h4,h5,_⟩:=s7 h3
 rw [h2] at h4;injection h4 with h4;subst h4;exact h5
theorem AH (cs:List Ch):dO cs=bC ((bh cs).filter fun c=>c.2.2)++cS ((bh cs).filter fun c=> !c.2.2):=by
 unfold dO cS
 rw [g8 _ _ _ (List.length_filter_le _ _) (Nat.le_refl _)]
end
section
open Go.RowKit
set_option maxRecDepth 100000

def qO:List Ch:= [((16777216,8),⟨0, [],9,0,false⟩,false),((33554432,8),⟨0, [],9,0,false⟩,false)]
theorem wF {l:List Px} (h:l.Pairwise c8):gC l=l:=
 o3 (AG (h.imp fun {a b} h e=>by subst e;exact dZ _ h)) h fun x=>(List.mergeSort_perm l _).mem_iff
theorem CR:dO qO= [⟨[],⟨0, [],9,0,false⟩, [(16777216,8),(33554432,8)]⟩]:=by
 have ho:bh qO=qO:=by
  have hk:fe qO= [(16777216,8),(33554432,8)]:=by decide+kernel
  unfold bh
  rw [hk,wF (by decide)]
  decide+kernel
 unfold dO
 rw [ho]
 decide+kernel
theorem Fa:VCx Try.prog ae 0 Bc [] ⟨[], []⟩ fun x T' =>x= .val (.bool true)∧T' =⟨[], []⟩:=by
 refine VCx.keepQ 0 0 (Nat.le_refl _) (Nat.le_refl _) (ah ac aa (az fun p hp=>by obtain rfl:=List.mem_singleton.1 hp;exact yG _) ag (F3 [] ⟨0, [],9,0,false⟩ (cH (16777216,8)) (cH (33554432,8)) _) ⟨⟨qO,fun tok=> ?_,⟨by decide,fun c hc=> ?_⟩,by rw [CR];rfl⟩,rfl,rfl⟩)
 ·intro g w u hu
  refine TVle.vecMem (f:=fun c:Ch=> [.val (.int .u32 c.1.1), .val (.int .i64 c.1.2), .val (.int .i64 0), .val (.slice none 0 0), .val (.int .u32 9), .val (.int .i64 0), .val (.bool false), .val (.bool false)]) (g:=aj) (l:=qO) (fun c hc=> ?_) g w u (fM hu)
  simp only [qO,List.mem_cons,List.not_mem_nil,or_false] at hc
  rcases hc with rfl | rfl<;>exact ⟨.refl _, .refl _, .refl _, .nil 1, .refl _, .refl _, .refl _, .refl _,trivial⟩
 ·simp only [qO,List.mem_cons,List.not_mem_nil,or_false] at hc
  rcases hc with rfl | rfl<;>exact ⟨Nat.zero_le _,by decide,by decide⟩
theorem Fb:∀ro ys T K,EG ro ys T K→VCx Try.prog ae ro Bc ys T K:=by
 intro ro ys T K h
 unfold EG at h
 split at h
 ·exact VCx.liftPure am Fa rfl (fun _ _=>rfl) h
 ·exact h.elim
end
section
open Go.RowKit

def mr (n:Int):Prop:=0≤n∧n≤32
def cA (a n:Int):Int:=IntKind.wrap IntKind.u32 (↑(BitVec.toNat (BitVec.ofInt (IntKind.bits IntKind.u32) a&&&BitVec.ofInt (IntKind.bits IntKind.u32) (↑(jg n):Int))):Int)
def Fc (L R:Bs):Prop:=∃cs:List Ch,(∀tok,TVle (.vec 8 L tok) (.vec 8 (cs.map aj) .none))∧CsOk cs∧R=(bh cs).map aj
def yI (g:Bool):AtV:=bif g then dj else ⟨0, [1],9,0,false⟩
def Fd (b i:Nat):Px:=(cA (IntKind.wrap IntKind.u32 (IntKind.wrap IntKind.u32 (i:Int)*(2:Int)^min (Int.toNat (20:Int)) (IntKind.bits IntKind.u32))) (b:Int),(b:Int))
def Gv (g:Bool) (b i:Nat):Ch:=(Fd b i,yI g,g)
def cI (g:Bool) (b k:Nat):List Ch:=(List.range k).map (Gv g b)
def yJ (g:Bool) (b i:Nat):List TV:= [.val (.int .u32 (Fd b i).1), .val (.int .i64 (b:Int)), .val (.int .i64 0),bif g then .val (.slice none 0 0) else .vec 1 [[.val (.int .i64 1)]] .none, .val (.int .u32 (bif g then 0 else 9)), .val (.int .i64 0), .val (.bool false), .val (.bool g)]
def bY (g:Bool) (b k:Nat):Bs:=(List.range k).map (yJ g b)
theorem yK (g:Bool) (b k:Nat):bY g b (k+1)=bY g b k++ [yJ g b k]:=by
 unfold bY;rw [List.range_succ,List.map_append];rfl
theorem nX (g:Bool) (b k:Nat):(bY g b k).length=k:=by unfold bY;rw [List.length_map,List.length_range]
theorem AI (g:Bool) (b k:Nat) (f h:Nat→Option Nat):bf f h (bY g b k)=bY g b k:=eJ (yJ g b) (fun i=>by cases g<;>rfl) _
theorem pY (g:Bool) (b k:Nat) (tok:Tok):TVle (.vec 8 (bY g b k) tok) (.vec 8 ((cI g b k).map aj) .none):=by
 intro w1 w u hu
 unfold cI
 rw [List.map_map]
 refine TVle.vecMem (f:=yJ g b) (g:=aj ∘ Gv g b) (l:=List.range k) (fun i _=> ?_) w1 w u (fM hu)
 cases g
 ·exact ⟨.refl _, .refl _, .refl _, .refl _, .refl _, .refl _, .refl _, .refl _,trivial⟩
 ·exact ⟨.refl _, .refl _, .refl _, .nil 1, .refl _, .refl _, .refl _, .refl _,trivial⟩
theorem CS (g:Bool) (b:Nat) {k:Nat} (hk:k≤2500):CsOk (cI g b k):=⟨by unfold cI;rw [List.length_map,List.length_range];omega,fun c hc=>by
 obtain ⟨i,_,rfl⟩:=List.mem_map.1 hc
 cases g
 ·exact ⟨(by decide:(1:Nat)≤9223372036854775807),(by decide:(0:Int)≤9),(by decide:(9:Int)<4294967296)⟩
 ·exact ⟨Nat.zero_le _,(by decide:(0:Int)≤0),(by decide:(0:Int)<4294967296)⟩⟩
def Bk (g:Bool) (b:Nat) (c:Ch):Prop:=c.1.2=(b:Int)∧c.2=(yI g,g)∧dN c=true
theorem CT {g:Bool} {b k:Nat}:∀c∈bh (cI g b k),Bk g b c:=fun c hc=>by
 have hg:=yH hc
 obtain ⟨i,_,h2,_⟩:=ka.1 (nW.1 hc)
 obtain ⟨i,_,rfl⟩:=List.mem_map.1 (List.mem_of_getElem? h2)
 exact ⟨rfl,rfl,hg⟩
def mt (g:Bool):Nat:=bif g then 4 else 22
def iR (b:Nat):Nat:=1+(b+7)/8
theorem Fe:(iL (yI false)).length=18:=by decide+kernel
theorem tq {b:Nat} (hb:b≤32):∀{l:List Px},(∀p∈l,p.2=(b:Int))→(bX l).length=l.length*iR b
 | [],_=>by simp [bX]
 | p::l,h=>by
  have ih:=tq hb (l:=l) fun q hq=>h q (List.mem_cons_of_mem _ hq)
  have h1:=h p List.mem_cons_self
  have e:bX (p::l)=fT p.1 p.2++bX l:=rfl
  have e2:(fT p.1 p.2).length=iR b:=by
   unfold fT iR nl
   rw [h1,List.length_cons,List.length_take,bJ]
   have:Int.toNat 4=4:=rfl
   omega
  rw [e,List.length_append,ih,e2,List.length_cons,Nat.succ_mul,Nat.add_comm]
theorem AJ {g:Bool} {b:Nat} (hb:b≤32) {l:List Ch} (h:∀c∈l,Bk g b c) (hne:l≠ []):jk (cq l)=((mt g+l.length*iR b:Nat):Int):=by
 cases l with
 | nil=>exact absurd rfl hne
 | cons c l=>
  have hof:cq (c::l)=bif c.2.2 then ⟨(c::l).map (·.1),dj, []⟩ else ⟨[],c.2.1,(c::l).map (·.1)⟩:=rfl
  have hpx:((c::l).map fun c=>c.1).all (fun p=>fV p.1 p.2)=true:=by
   rw [List.all_eq_true]
   intro p hp
   obtain ⟨d,hd,rfl⟩:=List.mem_map.1 hp
   have:=(h d hd).2.2
   unfold dN uQ at this
   rw [Bool.and_eq_true] at this
   exact this.1
  have hlen:=tq hb (l:=(c::l).map fun c=>c.1) fun p hp=>by
   obtain ⟨d,hd,rfl⟩:=List.mem_map.1 hp
   exact (h d hd).1
  rw [List.length_map] at hlen
  obtain ⟨h1,h2,h3⟩:=h c List.mem_cons_self
  cases g with
  | true=>
   rw [h2,cond_true] at hof
   rw [hof]
   have hg:fC ⟨(c::l).map (·.1),dj, []⟩=true:=by
    unfold fC
    simp only [List.append_nil]
    rw [hpx];rfl
   unfold jk
   rw [hg,cond_true]
   unfold l9 l8
   simp only [List.length_append,bJ,hlen]
   have:(bX []).length=0:=rfl
   have:Int.toNat 2=2:=rfl
   simp only [List.length_nil,show decide (((0:Nat):Int)>0)=false from rfl,cond_false,mt,cond_true]
   omega
  | false=>
   rw [h2,cond_false] at hof
   rw [hof]
   have hat:dB (yI false)=true:=by
    unfold dN uQ at h3
    rw [h2,cond_false,Bool.and_eq_true] at h3
    exact h3.2
   have hdec:decide ((((c::l).map fun c=>c.1).length:Int)>0)=true:=decide_eq_true (by rw [List.length_map,List.length_cons];omega)
   have hg:fC ⟨[],yI false,(c::l).map (·.1)⟩=true:=by
    unfold fC
    simp only [List.nil_append]
    rw [hpx,hat,hdec];rfl
   unfold jk
   rw [hg,cond_true]
   unfold l9 l8
   simp only [hdec,cond_true]
   simp only [List.length_append,bJ,hlen,Fe]
   have:(bX []).length=0:=rfl
   have:Int.toNat 2=2:=rfl
   simp only [mt,cond_false]
   omega
def cW (g:Bool) (b:Nat):Nat:=(4077-mt g)/iR b
theorem pZ (b:Nat):0<iR b:=by unfold iR;omega
theorem uX (g:Bool) {b:Nat} (hb:b≤32):0<cW g b:=by
 unfold cW
 refine Nat.div_pos ?_ (pZ b)
 unfold iR mt
 cases g<;>simp only [cond_true,cond_false]<;>omega
theorem CU {g:Bool} {b:Nat} (hb:b≤32) {l:List Ch} (h:∀c∈l,Bk g b c) (hne:l≠ []):bo l=decide (l.length≤cW g b):=by
 unfold bo
 rw [AJ hb h hne]
 have h1:(((mt g+l.length*iR b:Nat):Int)≤4077) ↔ l.length≤cW g b:=by
  unfold cW
  rw [Nat.le_div_iff_mul_le (pZ b)]
  have:mt g≤22:=by unfold mt;cases g<;>simp
  omega
 exact decide_eq_decide.2 h1
theorem uY {may:List Ch→Bool} {E:Nat} {l:List Ch} (hm:∀n,0<n→n≤l.length→may (l.take n)=decide (n≤E)):∀f n,0<n→l.length≤n+f→n≤min E l.length→jG may l f n=min E l.length
  | 0,n,_,h1,h2=>by unfold jG;omega
  | f+1,n,h0,h1,h2=>by
    unfold jG
    by_cases hlt:n<l.length
    · rw [decide_eq_true hlt,Bool.true_and,hm (n+1) (by omega) hlt]
      by_cases hE:n+1≤E
      · rw [decide_eq_true hE,cond_true]
        exact uY hm f (n+1) (by omega) (by omega) (by omega)
      · rw [decide_eq_false hE,cond_false];omega
    · rw [decide_eq_false hlt,Bool.false_and,cond_false];omega
theorem qP {E:Nat} (hE:0<E) (U:Ch→Prop) (hm:∀l:List Ch,(∀c∈l,U c)→l≠ []→bo l=decide (l.length≤E)):∀f (l:List Ch),l.length≤f→(∀c∈l,U c)→(c9 bo f l).length=(l.length+E-1)/E
  | _, [],_,_=>by
    rw [fR]
    simp only [List.length_nil,Nat.zero_add]
    rw [Nat.div_eq_of_lt (by omega)]
  | 0,c::l,h,_=>by simp at h
  | f+1,c::l,h,hu=>by
    have e:c9 bo (f+1) (c::l)=(c::l).take (bH bo (c::l))::c9 bo f ((c::l).drop (bH bo (c::l))):=rfl
    have hx:bH bo (c::l)=min E (c::l).length:=by
      unfold bH
      refine uY (fun n h0 hn=> ?_) _ _ (by omega) (by omega) (by rw [List.length_cons];omega)
      rw [hm _ (fun d hd=>hu d (List.mem_of_mem_take hd)) (fun e0=>by
        have:=congrArg List.length e0
        rw [List.length_take,List.length_nil] at this
        omega),List.length_take,Nat.min_eq_left hn]
    have ih:=qP hE U hm f ((c::l).drop (bH bo (c::l))) (by rw [List.length_drop,hx,List.length_cons] at*;omega) fun d hd=>hu d (List.mem_of_mem_drop hd)
    rw [e,List.length_cons,ih,List.length_drop,hx]
    generalize (c::l).length=m at*
    have hm0:0<m∨m=0:=by omega
    by_cases hle:m≤E
    · rw [Nat.min_eq_right hle,Nat.sub_self,Nat.zero_add,Nat.div_eq_of_lt (show E-1<E by omega)]
      have hm1:0<m:=by
        rcases hm0 with h | h
        · exact h
        · subst h
          rw [Nat.min_zero] at hx
          have:=iQ bo (c::l)
          omega
      have:m+E-1=(m-1)+E:=by omega
      rw [this,Nat.add_div_right _ hE,Nat.div_eq_of_lt (by omega)]
    · rw [Nat.min_eq_left (by omega)]
      have:m+E-1=(m-E+E-1)+E:=by omega
      rw [this,Nat.add_div_right _ hE]
theorem yL {g:Bool} {b k:Nat} (hb:b≤32):(dO (cI g b k)).length=((bh (cI g b k)).length+cW g b-1)/cW g b:=by
 have hu:=CT (g:=g) (b:=b) (k:=k)
 have hc:(aB (bh (cI g b k))).length=((bh (cI g b k)).length+cW g b-1)/cW g b:=qP (uX g hb) (Bk g b) (fun l h hne=>CU hb h hne) _ _ (Nat.le_refl _) hu
 rw [←hc,AH]
 generalize bh (cI g b k)=L at hu
 cases g with
 | true=>
  rw [List.filter_eq_self.2 fun c hc=>by rw [(hu c hc).2.1],List.filter_eq_nil_iff.2 fun c hc=>by rw [(hu c hc).2.1];simp]
  unfold cS
  rw [eG,List.append_nil]
  unfold bC
  rw [List.length_map]
 | false=>
  have f1:(L.filter fun c=> !c.2.2)=L:=List.filter_eq_self.2 fun c hc=>by rw [(hu c hc).2.1];rfl
  have f2:(L.filter fun c=>c.2.2)= []:=List.filter_eq_nil_iff.2 fun c hc=>by rw [(hu c hc).2.1];simp
  rw [f1,f2]
  cases L with
  | nil=>rfl
  | cons c l=>
   have h1:=hu c List.mem_cons_self
   rw [pf,List.filter_eq_self.2 fun d hd=>by rw [(hu d hd).2.1,h1.2.1];simp,List.filter_eq_nil_iff.2 fun d hd=>by rw [(hu d hd).2.1,h1.2.1];simp]
   unfold cS
   rw [eG,List.append_nil,show bC []= [] from rfl,List.nil_append]
   unfold bC
   rw [List.length_map]
end
section
open Go.RowKit

abbrev qQ:=5
abbrev yM:=22
abbrev Gw:=55
def Ff:aO:=fun _ ys T K=>match ys with
 | [.val (.int .i64 n)]=>mr n∧K (.val (.int .u32 (jg n))) T
 | _=>ap 84 default ys
def Bl:aO:=fun _ ys T K=>match ys with
 | [.agg [.val (.int .u32 a), .val (.int .i64 n)]]=>mr n∧K (.agg [.val (.int .u32 (cA a n)), .val (.int .i64 n)]) T
 | _=>ap 84 default ys
def AK (r:Bs):aO:=fun _ ys T K=>match ys with
 | [.vec 8 l _]=>Fc l r∧K (.vec 8 r .none) T
 | _=>ap 84 default ys
def tr:List Nat:= [1,7,8,9,10]
def mu (g:Bool) (k b:Nat) (l:Bs) (i:Int):List TV:= [.val (.bool g), .val (.int .i64 k), .val (.int .i64 b), .vec 8 l (.tail 0 l.length), .val (.int .i64 i)]
def mw (n:Nat):VT:=⟨[], [(n,8,true)]⟩
def GY (g:Bool) (k b:Nat) (l:Bs) (c:Code):Nat→Option (bP × Code):=cB [(0,dw 73 tr [(9,8)] (mu g k b [] 0) (mw 0) (fun K=>K .normal (aq 73 tr (mu g k b l k)) (mw l.length) []),c)]
theorem F4 (a n:Int) (Q:TV→VT→Prop):an Try.prog ae (aw [(Gw,Ff)]) (aV [(999998, .dead,none)]) 300 ay 0 yM [.agg [.val (.int .u32 a), .val (.int .i64 n)]] ⟨[], []⟩ Q=
 (bif decide (n<(0:Int))
 then (mr 0∧
 (((@Eq (Option TV) (.some (.val (.int .i64 0))) (.some (.val (.int .i64 0))))∧
 ((@Eq (Option TV) (.some (.val (.int .u32 (a)))) (.some (.val (.int .u32 (a)))))∧
 True))∧
 Q (.agg [(.val (.int .u32 (IntKind.wrap IntKind.u32 (↑(BitVec.toNat (BitVec.ofInt (IntKind.bits IntKind.u32) a&&&BitVec.ofInt (IntKind.bits IntKind.u32) (↑(jg (0:Int)):Int))):Int)))),(.val (.int .i64 0))]) ⟨[(.cells [(.val (.int .u32 (IntKind.wrap IntKind.u32 (↑(BitVec.toNat (BitVec.ofInt (IntKind.bits IntKind.u32) a&&&BitVec.ofInt (IntKind.bits IntKind.u32) (↑(jg (0:Int)):Int))):Int)))),(.val (.int .i64 0))]),(.cells [(.val (.int .u32 (IntKind.wrap IntKind.u32 (↑(BitVec.toNat (BitVec.ofInt (IntKind.bits IntKind.u32) a&&&BitVec.ofInt (IntKind.bits IntKind.u32) (↑(jg (0:Int)):Int))):Int)))),(.val (.int .i64 0))])], []⟩))
 else (bif decide (n>(32:Int))
 then (mr 32∧
 (((@Eq (Option TV) (.some (.val (.int .i64 32))) (.some (.val (.int .i64 32))))∧
 ((@Eq (Option TV) (.some (.val (.int .u32 (a)))) (.some (.val (.int .u32 (a)))))∧
 True))∧
 Q (.agg [(.val (.int .u32 (IntKind.wrap IntKind.u32 (↑(BitVec.toNat (BitVec.ofInt (IntKind.bits IntKind.u32) a&&&BitVec.ofInt (IntKind.bits IntKind.u32) (↑(jg (32:Int)):Int))):Int)))),(.val (.int .i64 32))]) ⟨[(.cells [(.val (.int .u32 (IntKind.wrap IntKind.u32 (↑(BitVec.toNat (BitVec.ofInt (IntKind.bits IntKind.u32) a&&&BitVec.ofInt (IntKind.bits IntKind.u32) (↑(jg (32:Int)):Int))):Int)))),(.val (.int .i64 32))]),(.cells [(.val (.int .u32 (IntKind.wrap IntKind.u32 (↑(BitVec.toNat (BitVec.ofInt (IntKind.bits IntKind.u32) a&&&BitVec.ofInt (IntKind.bits IntKind.u32) (↑(jg (32:Int)):Int))):Int)))),(.val (.int .i64 32))])], []⟩))
 else (mr (n)∧
 (((@Eq (Option TV) (.some (.val (.int .i64 (n)))) (.some (.val (.int .i64 (n)))))∧
 ((@Eq (Option TV) (.some (.val (.int .u32 (a)))) (.some (.val (.int .u32 (a)))))∧
 True))∧
 Q (.agg [(.val (.int .u32 (IntKind.wrap IntKind.u32 (↑(BitVec.toNat (BitVec.ofInt (IntKind.bits IntKind.u32) a&&&BitVec.ofInt (IntKind.bits IntKind.u32) (↑(jg n):Int))):Int)))),(.val (.int .i64 (n)))]) ⟨[(.cells [(.val (.int .u32 (IntKind.wrap IntKind.u32 (↑(BitVec.toNat (BitVec.ofInt (IntKind.bits IntKind.u32) a&&&BitVec.ofInt (IntKind.bits IntKind.u32) (↑(jg n):Int))):Int)))),(.val (.int .i64 (n)))]),(.cells [(.val (.int .u32 (IntKind.wrap IntKind.u32 (↑(BitVec.toNat (BitVec.ofInt (IntKind.bits IntKind.u32) a&&&BitVec.ofInt (IntKind.bits IntKind.u32) (↑(jg n):Int))):Int)))),(.val (.int .i64 (n)))])], []⟩)))):=by kernel_rfl
theorem F5 (n m e w:Int) (g:Bool) (k b:Nat) (l r u:Bs) (Q:TV→VT→Prop):an Try.prog ae (aw [(dD,AK r),(mm,Bg u),(Bc,EG)]) (aV [(999998, .dead,none),(58, .val (.int .i64 e),none),(64, .val (.int .i64 w),none)]) 300 (GY g k b l (ar Try.prog qQ 0)) 0 qQ [.val (.int .u16 n), .val (.bool g), .val (.int .u8 m)] ⟨[], []⟩ Q=
 ((ar Try.prog qQ (0:Nat)=ar Try.prog qQ (0:Nat))∧
 (((@Eq (Option Nat) .none .none)∧
 ((@Eq (Nat) 0 0)∧
 ((@Eq (List Nat) [] [])∧
 (((@Eq (Option TV) (.some (.val (.slice .none 0 0))) (.some (.val (.slice .none 0 0))))∧
 True)∧
 ((@Eq (VT) ⟨[], [(0,(8,true))]⟩ ⟨[], [(0,(8,true))]⟩)∧
 ((@Eq (Bool) true true)∧
 (@Eq (List TV) [(.val (.bool (g))),(.val (.int .i64 (Int.tmod (IntKind.wrap IntKind.i64 n) (2500:Int)))),(.val (.int .i64 (IntKind.wrap IntKind.i64 (Int.tmod m (33:Int))))),(.vec 8 [] (.tail 0 0)),(.val (.int .i64 0))] [(.val (.bool (g))),(.val (.int .i64 ((↑k:Int)))),(.val (.int .i64 ((↑b:Int)))),(.vec 8 [] (.tail 0 0)),(.val (.int .i64 0))])))))))∧
 (Fc (l) (r)∧
 (bif !g
 then (aU Try.prog (fun _=> .none) (.binOp .quo 3 (.tmp 53) (.tmp 57) 3) [(53,(.val (.int .i64 4055))),(57,(.val (.int .i64 (IntKind.wrap IntKind.i64 ((1:Int)+IntKind.wrap IntKind.i64 (Int.tdiv (IntKind.wrap IntKind.i64 ((↑b:Int)+(7:Int))) (8:Int)))))))] (.val (.int .i64 (e)))∧
 (aU Try.prog (fun _=> .none) (.binOp .quo 3 (.tmp 62) (.tmp 63) 3) [(62,(.val (.int .i64 (IntKind.wrap IntKind.i64 (IntKind.wrap IntKind.i64 ((↑(List.length r):Int)+e)-(1:Int)))))),(63,(.val (.int .i64 (e))))] (.val (.int .i64 (w)))∧
 (wy (l) (u)∧
 (bif bb BinOp.eql (ak (Value.int IntKind.i64 (↑(List.length u):Int)) (Value.int IntKind.i64 w))
 then Q (.val (.bool true)) ⟨[], [((List.length l),(8,true))]⟩
 else Q (.val (.bool false)) ⟨[], [((List.length l),(8,true))]⟩))))
 else (aU Try.prog (fun _=> .none) (.binOp .quo 3 (.tmp 53) (.tmp 57) 3) [(53,(.val (.int .i64 4073))),(57,(.val (.int .i64 (IntKind.wrap IntKind.i64 ((1:Int)+IntKind.wrap IntKind.i64 (Int.tdiv (IntKind.wrap IntKind.i64 ((↑b:Int)+(7:Int))) (8:Int)))))))] (.val (.int .i64 (e)))∧
 (aU Try.prog (fun _=> .none) (.binOp .quo 3 (.tmp 62) (.tmp 63) 3) [(62,(.val (.int .i64 (IntKind.wrap IntKind.i64 (IntKind.wrap IntKind.i64 ((↑(List.length r):Int)+e)-(1:Int)))))),(63,(.val (.int .i64 (e))))] (.val (.int .i64 (w)))∧
 (wy (l) (u)∧
 (bif bb BinOp.eql (ak (Value.int IntKind.i64 (↑(List.length u):Int)) (Value.int IntKind.i64 w))
 then Q (.val (.bool true)) ⟨[], [((List.length l),(8,true))]⟩
 else Q (.val (.bool false)) ⟨[], [((List.length l),(8,true))]⟩)))))))):=by kernel_rfl
theorem Fg (g:Bool) (k b k2:Nat) (l l2:Bs) (i:Nat) (tl2:oT) (Q:Exit→List TV→VT→List Nat→Nat→Prop):vx Try.prog ae (aw [(yM,Bl)]) (aV [(999998, .dead,none),(45, .vec 8 l2 (.tail 0 k2),some fun T=>{T with tails:=tl2})]) 300 ay none 0 (cp Try.prog qQ 0) (aq 73 tr (mu g k b l i)) (mw l.length) [] (cQ tr Q)=
 (bif decide ((↑i:Int)<(↑k:Int))
 then (mr ((↑b:Int))∧
 (bif !g
 then (aW Try.prog (fun _=> .none) 0 ⟨[(.cells [(.val (.int .u32 (cA (IntKind.wrap IntKind.u32 (IntKind.wrap IntKind.u32 (↑i:Int)*(2:Int)^min (Int.toNat (20:Int)) (IntKind.bits IntKind.u32))) (↑b:Int)))),(.val (.int .i64 ((↑b:Int))))]),(.cells [(.val (.int .u32 (cA (IntKind.wrap IntKind.u32 (IntKind.wrap IntKind.u32 (↑i:Int)*(2:Int)^min (Int.toNat (20:Int)) (IntKind.bits IntKind.u32))) (↑b:Int)))),(.val (.int .i64 ((↑b:Int)))),(.val (.int .i64 0)),(.vec 1 [[(.val (.int .i64 1))]] .full),(.val (.int .u32 9)),(.val (.int .i64 0)),(.val (.bool false)),(.val (.bool (g)))])], [((List.length l),(8,true))]⟩ (.call ⟨(.builtin .append), #[(.tmp 42),(.tmp 44)], #[48,48]⟩) [(42,(.vec 8 (l) (.tail 0 (List.length l)))),(44,(.vec 8 [[(.val (.int .u32 (cA (IntKind.wrap IntKind.u32 (IntKind.wrap IntKind.u32 (↑i:Int)*(2:Int)^min (Int.toNat (20:Int)) (IntKind.bits IntKind.u32))) (↑b:Int)))),(.val (.int .i64 ((↑b:Int)))),(.val (.int .i64 0)),(.vec 1 [[(.val (.int .i64 1))]] .full),(.val (.int .u32 9)),(.val (.int .i64 0)),(.val (.bool false)),(.val (.bool (g)))]] .full))] (.vec 8 (l2) (.tail 0 (k2))) ⟨[(.cells [(.val (.int .u32 (cA (IntKind.wrap IntKind.u32 (IntKind.wrap IntKind.u32 (↑i:Int)*(2:Int)^min (Int.toNat (20:Int)) (IntKind.bits IntKind.u32))) (↑b:Int)))),(.val (.int .i64 ((↑b:Int))))]),(.cells [(.val (.int .u32 (cA (IntKind.wrap IntKind.u32 (IntKind.wrap IntKind.u32 (↑i:Int)*(2:Int)^min (Int.toNat (20:Int)) (IntKind.bits IntKind.u32))) (↑b:Int)))),(.val (.int .i64 ((↑b:Int)))),(.val (.int .i64 0)),(.vec 1 [[(.val (.int .i64 1))]] .full),(.val (.int .u32 9)),(.val (.int .i64 0)),(.val (.bool false)),(.val (.bool (g)))])],(tl2)⟩∧
 Q .normal [(.val (.bool (g))),(.val (.int .i64 ((↑k:Int)))),(.val (.int .i64 ((↑b:Int)))),(.vec 8 (l2) (.tail 0 (k2))),(.val (.int .i64 (IntKind.wrap IntKind.i64 ((↑i:Int)+(1:Int)))))] ⟨[(.cells [(.val (.int .u32 (cA (IntKind.wrap IntKind.u32 (IntKind.wrap IntKind.u32 (↑i:Int)*(2:Int)^min (Int.toNat (20:Int)) (IntKind.bits IntKind.u32))) (↑b:Int)))),(.val (.int .i64 ((↑b:Int))))]),(.cells [(.val (.int .u32 (cA (IntKind.wrap IntKind.u32 (IntKind.wrap IntKind.u32 (↑i:Int)*(2:Int)^min (Int.toNat (20:Int)) (IntKind.bits IntKind.u32))) (↑b:Int)))),(.val (.int .i64 ((↑b:Int)))),(.val (.int .i64 0)),(.vec 1 [[(.val (.int .i64 1))]] .full),(.val (.int .u32 9)),(.val (.int .i64 0)),(.val (.bool false)),(.val (.bool (g)))])],(tl2)⟩ [] 73)
 else (aW Try.prog (fun _=> .none) 0 ⟨[(.cells [(.val (.int .u32 (cA (IntKind.wrap IntKind.u32 (IntKind.wrap IntKind.u32 (↑i:Int)*(2:Int)^min (Int.toNat (20:Int)) (IntKind.bits IntKind.u32))) (↑b:Int)))),(.val (.int .i64 ((↑b:Int))))]),(.cells [(.val (.int .u32 (cA (IntKind.wrap IntKind.u32 (IntKind.wrap IntKind.u32 (↑i:Int)*(2:Int)^min (Int.toNat (20:Int)) (IntKind.bits IntKind.u32))) (↑b:Int)))),(.val (.int .i64 ((↑b:Int)))),(.val (.int .i64 0)),(.val (.slice .none 0 0)),(.val (.int .u32 0)),(.val (.int .i64 0)),(.val (.bool false)),(.val (.bool (g)))])], [((List.length l),(8,true))]⟩ (.call ⟨(.builtin .append), #[(.tmp 42),(.tmp 44)], #[48,48]⟩) [(42,(.vec 8 (l) (.tail 0 (List.length l)))),(44,(.vec 8 [[(.val (.int .u32 (cA (IntKind.wrap IntKind.u32 (IntKind.wrap IntKind.u32 (↑i:Int)*(2:Int)^min (Int.toNat (20:Int)) (IntKind.bits IntKind.u32))) (↑b:Int)))),(.val (.int .i64 ((↑b:Int)))),(.val (.int .i64 0)),(.val (.slice .none 0 0)),(.val (.int .u32 0)),(.val (.int .i64 0)),(.val (.bool false)),(.val (.bool (g)))]] .full))] (.vec 8 (l2) (.tail 0 (k2))) ⟨[(.cells [(.val (.int .u32 (cA (IntKind.wrap IntKind.u32 (IntKind.wrap IntKind.u32 (↑i:Int)*(2:Int)^min (Int.toNat (20:Int)) (IntKind.bits IntKind.u32))) (↑b:Int)))),(.val (.int .i64 ((↑b:Int))))]),(.cells [(.val (.int .u32 (cA (IntKind.wrap IntKind.u32 (IntKind.wrap IntKind.u32 (↑i:Int)*(2:Int)^min (Int.toNat (20:Int)) (IntKind.bits IntKind.u32))) (↑b:Int)))),(.val (.int .i64 ((↑b:Int)))),(.val (.int .i64 0)),(.val (.slice .none 0 0)),(.val (.int .u32 0)),(.val (.int .i64 0)),(.val (.bool false)),(.val (.bool (g)))])],(tl2)⟩∧
 Q .normal [(.val (.bool (g))),(.val (.int .i64 ((↑k:Int)))),(.val (.int .i64 ((↑b:Int)))),(.vec 8 (l2) (.tail 0 (k2))),(.val (.int .i64 (IntKind.wrap IntKind.i64 ((↑i:Int)+(1:Int)))))] ⟨[(.cells [(.val (.int .u32 (cA (IntKind.wrap IntKind.u32 (IntKind.wrap IntKind.u32 (↑i:Int)*(2:Int)^min (Int.toNat (20:Int)) (IntKind.bits IntKind.u32))) (↑b:Int)))),(.val (.int .i64 ((↑b:Int))))]),(.cells [(.val (.int .u32 (cA (IntKind.wrap IntKind.u32 (IntKind.wrap IntKind.u32 (↑i:Int)*(2:Int)^min (Int.toNat (20:Int)) (IntKind.bits IntKind.u32))) (↑b:Int)))),(.val (.int .i64 ((↑b:Int)))),(.val (.int .i64 0)),(.val (.slice .none 0 0)),(.val (.int .u32 0)),(.val (.int .i64 0)),(.val (.bool false)),(.val (.bool (g)))])],(tl2)⟩ [] 73)))
 else Q (.exit 0) [(.val (.bool (g))),(.val (.int .i64 ((↑k:Int)))),(.val (.int .i64 ((↑b:Int)))),(.vec 8 (l) (.tail 0 (List.length l))),(.val (.int .i64 ((↑i:Int))))] ⟨[], [((List.length l),(8,true))]⟩ [] 73):=by kernel_rfl
end
section
open Go.ChangeShapes Go.WideShapes Go.ChangeAt Go.RowKit Go.Joins Go.Deep

section
variable {H:Type} {enc:TypeId × Value→H} {P:Program} {w:World} {base:Nat} {spare:Nat→Bool} {held:Bool}
end
end
section
open Go.ChangeShapes Go.WideShapes Go.ChangeAt Go.RowKit Go.Joins Go.Deep

theorem nY {α:Type} {k:Nat}:∀(l:List (List α)),(∀x∈l,x.length=k)→∀(j:Nat) u,l.flatten[j]?=some u→∃i c x,c<k∧j=i*k+c∧l[i]?=some x∧x[c]?=some u
 | [],_,j,u,h=>by simp at h
 | a::r,hz,j,u,h=>by
  have ha:=hz a (by simp)
  rw [List.flatten_cons] at h
  rcases Nat.lt_or_ge j a.length with hj | hj
  ·rw [List.getElem?_append_left hj] at h
   exact ⟨0,j,a,by omega,by omega,rfl,h⟩
  ·rw [List.getElem?_append_right hj] at h
   obtain ⟨i,c,x,h1,h2,h3,h4⟩:=nY r (fun x hx=>hz x (by simp [hx])) _ u h
   refine ⟨i+1,c,x,h1, ?_,by simpa using h3,h4⟩
   rw [Nat.add_mul];omega
section
variable {P:Program} {H:Type} {enc:TypeId × Value→H} {w:World} {base:Nat} {spare:Nat→Bool} {held:Bool}
end
end
section
open Go.ChangeShapes Go.WideShapes Go.ChangeAt Go.RowKit Go.Joins Go.Deep

inductive SH where
 | int (k:IntKind)
 | bool
 | str
 | slice (es:List SH)
mutual
def SH.Fits:SH→TV→Prop
 | .int k,x=>∃z,x= .val (.int k z)∧(Lit.int k z).wf=true
 | .bool,x=>∃b,x= .val (.bool b)
 | .str,x=>∃s:ByteArray,x= .val (.string s)∧s.size≤maxLen
 | .slice es,x=>∃l:List (List TV),x= .vec es.length l .none∧l.length≤maxLen∧∀e∈l,jv es e
def jv:List SH→List TV→Prop
 | [], []=>True
 | s::ss,x::xs=>s.Fits x∧jv ss xs
 | _,_=>False
end
theorem qR:∀{ss:List SH} {xs:List TV},jv ss xs→xs.length=ss.length
 | [], [],_=>rfl
 | [],_::_,h=>by simp [jv] at h
 | _::_, [],h=>by simp [jv] at h
 | s::ss,x::xs,h=>by
  simp only [jv] at h
  simp [qR h.2]
theorem yN {x:TV} (h:SH.Fits .bool x):∃b,x= .val (.bool b):=by simpa [SH.Fits] using h
def pg (f:TypeId→Option SH):List TypeId→Option (List SH)
 | []=>some []
 | t::r=>match f t,pg f r with
  | some s,some l=>some (s::l)
  | _,_=>none
theorem uZ {f:TypeId→Option SH}:∀{ts:List TypeId} {ss:List SH},pg f ts=some ss→ss.length=ts.length
 | [],ss,h=>by simp [pg] at h;subst h;rfl
 | t::r,ss,h=>by
  simp only [pg] at h
  split at h
  ·rename_i s l h1 h2
   injection h with h;subst h
   simp [uZ h2]
  ·cases h
def tu (P:Program):Nat→TypeId→Option SH
 | 0,_=>none
 | n+1,t=>match P.underlying t with
  | some (.int k)=>some (.int k)
  | some .bool=>some .bool
  | some .string=>some .str
  | some (.slice e)=>match jZ P n e with
   | some ts=>bif Nat.beq (P.cellsOf e) ts.length&&Nat.ble 1 ts.length then (pg (tu P n) ts).map .slice else none
   | none=>none
  | _=>none
section
variable {P:Program} {H:Type} {enc:TypeId × Value→H} {w:World} {base:Nat} {held:Bool}
abbrev tv (enc:TypeId × Value→H) (P:Program) (w:World) (base:Nat) (held:Bool) (t:TypeId) (sh:SH):Prop:=∀u m y,DataW.trod enc P w base (fun _=>true) held m t [u]=some y→u.oneCell' =true∧∃x,VR (nK w) w x u∧sh.Fits x
theorem tw {f:TypeId→Option SH} (hf:∀t sh,f t=some sh→tv enc P w base held t sh):∀(ts:List TypeId) (ss:List SH) (cs:List Value),pg f ts=some ss→cs.length=ts.length→
  (∀(j:Nat) t',ts[j]?=some t' →∃u m y,cs[j]?=some u∧DataW.trod enc P w base (fun _=>true) held m t' [u]=some y)→(∀u∈cs,u.oneCell' =true)∧∃xs,VRs (nK w) w xs cs∧jv ss xs
 | [],ss,cs,h,hl,_=>by
  simp [pg] at h;subst h
  have:=List.eq_nil_of_length_eq_zero hl
  subst this
  exact ⟨by simp, [],VRs.nil _ _,trivial⟩
 | t::r,ss, [],h,hl,_=>by simp at hl
 | t::r,ss,c::cs,h,hl,hj=>by
  simp only [pg] at h
  split at h
  ·rename_i s l h1 h2
   injection h with h;subst h
   obtain ⟨u,m,y,k1,k2⟩:=hj 0 t rfl
   simp at k1;subst k1
   obtain ⟨a1,x,a2,a3⟩:=hf t s h1 _ m y k2
   obtain ⟨b1,xs,b2,b3⟩:=tw hf r l cs h2 (by simpa using hl) fun j t' ht' =>by
    obtain ⟨u,m,y,k1,k2⟩:=hj (j+1) t' (by simpa using ht')
    exact ⟨u,m,y,by simpa using k1,k2⟩
   refine ⟨fun u hu=> ?_,x::xs,VRs.cons a2 b2,a3,b3⟩
   rcases List.mem_cons.1 hu with rfl | hu
   ·exact a1
   ·exact b1 u hu
  ·cases h
theorem pi {e:TypeId} {n:Nat} {ts:List TypeId} {f:TypeId→Option SH} {ss:List SH} (hf:∀t sh,f t=some sh→tv enc P w base held t sh) (hts:jZ P n e=some ts) (hss:pg f ts=some ss):
    ∀(rows:List (List Value)),(∀x∈rows,x.length=ts.length∧∃m y,DataW.trod enc P w base (fun _=>true) held m e x=some y)→
      (∀u∈rows.flatten,u.oneCell' =true)∧∃l:List (List TV),l.length=rows.length∧VRs (nK w) w l.flatten rows.flatten∧∀x∈l,jv ss x
  | [],_=>⟨by simp, [],rfl,VRs.nil _ _,by simp⟩
  | r::rows,h=>by
    obtain ⟨h1,m,y,h2⟩:=h r List.mem_cons_self
    obtain ⟨a1,xs,a2,a3⟩:=tw hf ts ss r hss h1 (qz n m e ts r y hts h1 h2)
    obtain ⟨b1,l,b2,b3,b4⟩:=pi hf hts hss rows fun x hx=>h x (List.mem_cons_of_mem _ hx)
    refine ⟨fun u hu=> ?_,xs::l,by simp [b2],by rw [List.flatten_cons,List.flatten_cons];exact a2.app b3,fun x hx=> ?_⟩
    · rw [List.flatten_cons] at hu
      rcases List.mem_append.1 hu with hu | hu
      · exact a1 u hu
      · exact b1 u hu
    · rcases List.mem_cons.1 hx with rfl | hx
      · exact a3
      · exact b4 x hx
theorem qS:∀(n:Nat) (t:TypeId) (sh:SH),tu P n t=some sh→tv enc P w base held t sh
  | 0,_,_,h=>by simp [tu] at h
  | n+1,t,sh,h=>by
    intro u m y hy
    simp only [tu] at h
    split at h
    · rename_i k hk
      injection h with h;subst h
      obtain ⟨z,rfl,wz⟩:=zB hk hy
      exact ⟨rfl,_, .val _,z,rfl,wz⟩
    · rename_i hk
      injection h with h;subst h
      obtain ⟨b,e,_⟩:=DataW.trod_bool hk hy
      injection e with e;subst e
      exact ⟨rfl,_, .val _,b,rfl⟩
    · rename_i hk
      injection h with h;subst h
      obtain ⟨s,e,_,hs⟩:=DataW.trod_string hk hy
      injection e with e;subst e
      exact ⟨rfl,_, .val _,s,rfl,hs⟩
    · rename_i e ht
      split at h
      · rename_i ts hts
        cases hb:(Nat.beq (P.cellsOf e) ts.length&&Nat.ble 1 ts.length) with
        | false=>rw [hb] at h;cases h
        | true=>
          rw [hb] at h
          simp only [Bool.and_eq_true] at hb
          have hk:=Nat.eq_of_beq_eq_true hb.1
          have hpos:=Nat.le_of_ble_eq_true hb.2
          simp only [cond_true,Option.map_eq_some_iff] at h
          obtain ⟨ss,hss,rfl⟩:=h
          have hsl:=uZ hss
          rcases open_slice ht hy with ⟨hcs,_⟩ | ⟨a,len,cap,m',n',D,Pl,hcs,hbb,hl,hm,hmm,hx,hall⟩
          · injection hcs with hcs;subst hcs
            exact ⟨rfl, .vec ss.length [] .none, .nil trivial, [],rfl,Nat.zero_le _,by simp⟩
          · injection hcs with hcs;subst hcs
            simp only [if_true] at hmm
            subst hmm
            rw [hk] at hall
            obtain ⟨b,o,sp⟩:=a
            rcases Nat.eq_zero_or_pos m' with hc0 | hc0
            · subst hc0
              have:len=0:=by omega
              subst this
              exact ⟨rfl, .vec ss.length [] .none, .odd _ trivial, [],rfl,Nat.zero_le _,by simp⟩
            · have hsp:sp=none:=by
                obtain ⟨cs',h1,_⟩:=hall 0 hc0
                obtain ⟨_,h3,h4⟩:=World.cells?_some h1
                have h5:=h4 0 hpos
                rw [List.getElem?_eq_getElem (by omega)] at h5
                cases sp with
                | none=>rfl
                | some s=>simp [World.cell?,Addr.add] at h5;split at h5<;>cases h5
              subst hsp
              obtain ⟨V,hV⟩:=choose_lt (α:=List Value) (p:=fun i cs' =>w.cells? base ((⟨b,o,none⟩:Addr).add (i*ts.length)) ts.length=some cs' ∧DataW.trod enc P w base (fun _=>true) held n' e cs' =some (D i,Pl i)) (fun i hi=>hall i hi)
              have each:∀i,i<len→(V i).length=ts.length∧(∀c,c<ts.length→w.cell? ⟨b,o+(i*ts.length+c),none⟩=(V i)[c]?)∧∃y,DataW.trod enc P w base (fun _=>true) held n' e (V i)=some y:=fun i hi=>by
                obtain ⟨h1,h2⟩:=hV i (by omega)
                obtain ⟨_,h3,h4⟩:=World.cells?_some h1
                refine ⟨h3,fun c hc=> ?_,_,h2⟩
                rw [←h4 c hc]
                congr 1
                simp [Addr.add_none,Nat.add_assoc]
              have at1:∀(i:Nat) x,((List.range len).map V)[i]?=some x→i<len∧x=V i:=fun i x hx=>by
                rw [List.getElem?_map] at hx
                rcases Nat.lt_or_ge i len with hi | hi
                · rw [List.getElem?_range hi] at hx
                  injection hx with hx
                  exact ⟨hi,hx.symm⟩
                · rw [List.getElem?_eq_none (by simpa using hi)] at hx;cases hx
              have hz:∀x∈(List.range len).map V,x.length=ts.length:=fun x hx=>by
                obtain ⟨i,hi,rfl⟩:=List.mem_map.1 hx
                exact (each i (List.mem_range.1 hi)).1
              obtain ⟨k1,l,k2,k3,k4⟩:=pi (fun t sh h=>qS n t sh h) hts hss ((List.range len).map V) fun x hx=>by
                obtain ⟨i,hi,rfl⟩:=List.mem_map.1 hx
                obtain ⟨e1,_,y,e3⟩:=each i (List.mem_range.1 hi)
                exact ⟨e1,n',y,e3⟩
              have hlen:l.length=len:=by rw [k2];simp
              refine ⟨rfl, .vec ss.length l .none, ?_,l,rfl,by omega,k4⟩
              refine .mk_vec hlen.symm hl hm (fun x hx=>qR (k4 x hx)) trivial k3 (fun j hj=> ?_) (fun j u hu=> ?_) k1
              · rw [←k3.1] at hj
                obtain ⟨i,c,x,h1,h2,h3,h4⟩:=nY _ hz j _ (List.getElem?_eq_getElem hj)
                obtain ⟨hi,rfl⟩:=at1 i x h3
                show (w.cell? ⟨b,o+j,none⟩).isSome=true
                rw [h2,(each i hi).2.1 c h1,h4];rfl
              · obtain ⟨i,c,x,h1,h2,h3,h4⟩:=nY _ hz j u hu
                obtain ⟨hi,rfl⟩:=at1 i x h3
                rw [h2,(each i hi).2.1 c h1,h4]
      · cases h
    · cases h
theorem wG {m:Nat} {t:TypeId} {sh:SH} {r:Reach} {b0:Nat} {v:Value} {d:DataW H} {p:List MemPlace} (hs:tu P m t=some sh)
  (hv:Value.okWide P w r b0 t v) (h:DataW.Trod enc P w base (fun _=>true) held t v d p):∃x,VR (nK w) w x v∧sh.Fits x:=by
 have hc:v.cells.toList= [v]:=by
  cases m with
  | zero=>simp [tu] at hs
  | succ m=>
   simp only [tu] at hs
   unfold Value.okWide at hv
   split at hs
   ·rename_i k hk
    rw [hk] at hv
    simp only [Cell.okWide,hk] at hv
    cases v<;>simp [Cell.ok,hk] at hv<;>rfl
   ·rename_i hk
    rw [hk] at hv
    simp only [Cell.okWide,hk] at hv
    cases v<;>simp [Cell.ok,hk] at hv<;>rfl
   ·rename_i hk
    rw [hk] at hv
    simp only [Cell.okWide,hk] at hv
    cases v<;>simp [Cell.ok,hk] at hv<;>rfl
   ·rename_i e hk
    obtain ⟨qq,n,c,rfl⟩:=okWide_slice hk (by unfold Value.okWide;exact hv)
    rfl
   ·cases hs
 obtain ⟨fuel,hf⟩:=h
 rw [hc] at hf
 exact (qS m t sh hs v fuel _ hf).2
end
end
section
open Go.RowKit Go.Deep Go.WideShapes Go.ChangeAt

end
section
open Go.RowKit Go.Deep Go.WideShapes Go.ChangeAt
set_option maxRecDepth 100000

theorem qT {P:Program} {G:ax} {t t2:TypeId} {x y:Nat} {a b:Int} (hne:Nat.beq x y=false) (hu:P.underlying t=some (.int .i64)) (hb:b≠0):aU P G (.binOp .quo t (.tmp x) (.tmp y) t2) [(x, .val (.int .i64 a)),(y, .val (.int .i64 b))] (.val (.int .i64 (IntKind.wrap .i64 (a.tdiv b)))):=by
 refine ⟨?_⟩
 simp [aS,aN,cu,hne,AN,vA,pn,bM,eqGuard,binOp,hu,hb,ve]
 simp [bd,Op.intDiv,hb]
 rfl
theorem Fh:∀ro ys T K,Ff ro ys T K→VCx Try.prog ae ro Gw ys T K:=by
 intro ro ys T K h
 unfold Ff at h
 split at h
 ·obtain ⟨hn,hk⟩:=h
  rename_i n
  exact VCx.liftPure am (VCx.ofCalls rfl (VCalls.of_eq (us:= [.int .i64 n]) (fun w=>FS n (by unfold mr at hn;omega) w) _) fun _ _=>rfl) rfl (fun _ _=>rfl) hk
 ·exact h.elim
theorem Fi (a:Int) {n:Int} (hn:mr n):VCx Try.prog ae 0 yM [.agg [.val (.int .u32 a), .val (.int .i64 n)]] ⟨[], []⟩ fun x T' =>x= .agg [.val (.int .u32 (cA a n)), .val (.int .i64 n)]∧T' =⟨[], []⟩:=by
 refine VCx.keepQ 0 0 (Nat.le_refl _) (Nat.le_refl _) (ah ac aa (az fun p hp=>by obtain rfl:=List.mem_singleton.1 hp;exact Fh) ag (F4 a n _) ?_)
 exact aX (decide_eq_false (by have:=hn.1;omega)) (aX (decide_eq_false (by have:=hn.2;omega)) ⟨hn,⟨rfl,rfl,trivial⟩,rfl,rfl⟩)
theorem Fj:∀ro ys T K,Bl ro ys T K→VCx Try.prog ae ro yM ys T K:=by
 intro ro ys T K h
 unfold Bl at h
 split at h
 ·obtain ⟨hn,hk⟩:=h
  exact VCx.liftPure am (Fi _ hn) rfl (fun _ _=>rfl) hk
 ·exact h.elim
theorem CV (r:Bs):∀ro ys T K,AK r ro ys T K→VCx Try.prog ae ro dD ys T K:=by
 intro ro ys T K h
 unfold AK at h
 split at h
 ·obtain ⟨⟨cs,hl,hc,rfl⟩,hk⟩:=h
  have hf:=hc.few
  refine VCx.argsLe (xs:= [.vec 8 (cs.map aj) .none]) ⟨hl _,trivial⟩ ?_
  exact VCx.liftPure am (yr (by omega) (fun c h=>(hc.at' c h).1) .none) (by simp only [av,TV.ren,bk,Tok.ren]) (fun _ _=>by simp only [TV.ren,bk,Tok.ren]) hk
 ·exact h.elim
theorem GG:aZ Try.prog ae (aw [(yM,Bl)]):=az fun p hp=>by obtain rfl:=List.mem_singleton.1 hp;exact Fj
def yO (g:Bool) (b i:Nat):List TV:= [.val (.int .u32 (Fd b i).1), .val (.int .i64 (b:Int)), .val (.int .i64 0),bif g then .val (.slice none 0 0) else .vec 1 [[.val (.int .i64 1)]] .full, .val (.int .u32 (bif g then 0 else 9)), .val (.int .i64 0), .val (.bool false), .val (.bool g)]
theorem CW (g:Bool) (b i:Nat) (f h:Nat→Option Nat):av f h (yO g b i)=yJ g b i:=by cases g<;>rfl
theorem wH (f h:Nat→Option Nat) (a b:Bs):bf f h (a++b)=bf f h a++bf f h b:=by
 rw [br,br,br,List.map_append]
theorem CX (g:Bool) {k b:Nat} (hk:k≤2500) (hb:b≤32) (K:KX) (hK:K .normal (aq 73 tr (mu g k b (bY g b k) k)) (mw (bY g b k).length) []):
    VWx Try.prog ae none 0 (ar Try.prog qQ 0) (aq 73 tr (mu g k b [] 0)) (mw 0) [] K:=by
  refine di (f:=qQ) (id:=0) (by kernel_rfl) 73 tr (fun i:Nat=>k-i) (fun i:Nat=>mu g k b (bY g b i) (i:Int)) (fun i=>mw (bY g b i).length) (fun i=>i≤k) 0 1 (fun j _=>⟨Nat.le_refl _,Nat.le_refl _⟩)
    (fun e vs T=>e= .normal∧vs=mu g k b (bY g b k) (k:Int)∧T=mw (bY g b k).length) (fun i hi=> ?_) 0 (Nat.zero_le _) K ?_
  rotate_left
  · rintro e vs T ⟨rfl,rfl,rfl⟩
    exact hK
  have hln:=nX g b i
  refine bF ac aa GG ag (Fg g k b ((bY g b i).length+1) (bY g b i) (bY g b i++ [yO g b i]) i [((bY g b i).length+1,8,true)] _) ?_
  by_cases hlt:i<k
  · rw [g7 (by omega)]
    refine bp (decide_eq_true (by omega)) ⟨⟨by omega,by omega⟩, ?_⟩
    have hend:∀o,oQ 73 0 (fun i:Nat=>k-i) (fun i:Nat=>mu g k b (bY g b i) (i:Int)) (fun i=>mw (bY g b i).length) (fun i=>i≤k) 0 1 i (fun e vs T=>e= .normal∧vs=mu g k b (bY g b k) (k:Int)∧T=mw (bY g b k).length)
        .normal [.val (.bool g), .val (.int .i64 k), .val (.int .i64 b), .vec 8 (bY g b i++ [yO g b i]) (.tail 0 ((bY g b i).length+1)), .val (.int .i64 ((i+1:Nat):Int))] ⟨o, [((bY g b i).length+1,8,true)]⟩ [] 73:=fun o=>by
      have e3:(bY g b (i+1)).length=(bY g b i).length+1:=by rw [nX,nX]
      refine ⟨rfl,rfl,i+1,hlt,by show k-(i+1)<k-i;omega, .inr ⟨?_, ?_⟩⟩
      · show _=mw (bY g b (i+1)).length
        rw [e3]
        simp [VT.keep,mw]
      · show _=mu g k b (bY g b (i+1)) _
        unfold mu
        rw [e3,yK]
        simp only [av,bf,TV.ren,wH,AI,CW,Tok.ren];rfl
    cases g with
    | false=>exact bp rfl ⟨mg.app (T:=⟨_, [((bY false b i).length,8,true)]⟩) (k:=0) (bn:=true) (es:=bY false b i) (es2:= [yO false b i]) rfl rfl (by simp only [List.length_cons,List.length_nil];omega),hend _⟩
    | true=>exact aX rfl ⟨mg.app (T:=⟨_, [((bY true b i).length,8,true)]⟩) (k:=0) (bn:=true) (es:=bY true b i) (es2:= [yO true b i]) rfl rfl (by simp only [List.length_cons,List.length_nil];omega),hend _⟩
  · obtain rfl:i=k:=by omega
    exact aX (decide_eq_false (by omega)) ⟨rfl,rfl,rfl,rfl,rfl⟩
theorem CY (g:Bool) {b:Nat} (hb:b≤32):IntKind.wrap .i64 (Int.tdiv (4077-mt g:Nat) (IntKind.wrap IntKind.i64 ((1:Int)+IntKind.wrap IntKind.i64 (Int.tdiv (IntKind.wrap IntKind.i64 ((b:Int)+(7:Int))) (8:Int)))))=(cW g b:Int)∧IntKind.wrap IntKind.i64 ((1:Int)+IntKind.wrap IntKind.i64 (Int.tdiv (IntKind.wrap IntKind.i64 ((b:Int)+(7:Int))) (8:Int)))=(iR b:Int):=by
 have e1:IntKind.wrap IntKind.i64 ((b:Int)+(7:Int))=((b+7:Nat):Int):=by rw [cj (by omega) (by omega)];omega
 have e2:Int.tdiv ((b+7:Nat):Int) (8:Int)=(((b+7)/8:Nat):Int):=rfl
 have e3:IntKind.wrap IntKind.i64 ((1:Int)+IntKind.wrap IntKind.i64 (Int.tdiv (IntKind.wrap IntKind.i64 ((b:Int)+(7:Int))) (8:Int)))=(iR b:Int):=by
  rw [e1,e2,cj (z:=(((b+7)/8:Nat):Int)) (by omega) (by omega),cj (by omega) (by omega)]
  unfold iR;omega
 refine ⟨?_,e3⟩
 rw [e3]
 have e4:Int.tdiv ((4077-mt g:Nat):Int) (iR b:Int)=(cW g b:Int):=rfl
 have hN:cW g b≤4077:=Nat.le_trans (Nat.div_le_self _ _) (by omega)
 rw [e4,cj (by omega) (by omega)]
theorem Fk (n m:Int) (g:Bool) (hn:0≤n∧n<65536) (hm:0≤m∧m<256):VCx Try.prog ae 0 qQ [.val (.int .u16 n), .val (.bool g), .val (.int .u8 m)] ⟨[], []⟩ fun x T' =>x= .val (.bool true)∧T' =⟨[], []⟩:=by
  obtain ⟨n,rfl⟩:∃x:Nat,n=(x:Int):=⟨n.toNat,by omega⟩
  obtain ⟨m,rfl⟩:∃x:Nat,m=(x:Int):=⟨m.toNat,by omega⟩
  have hk:n%2500≤2500:=Nat.le_of_lt (Nat.mod_lt _ (by omega))
  have hb:m%33≤32:=by have:=Nat.mod_lt m (show 0<33 by omega);omega
  have ek:Int.tmod (IntKind.wrap IntKind.i64 (n:Int)) (2500:Int)=((n%2500:Nat):Int):=by rw [cj (by omega) (by omega)];rfl
  have eb:IntKind.wrap IntKind.i64 (Int.tmod (m:Int) (33:Int))=((m%33:Nat):Int):=by
    have:Int.tmod (m:Int) (33:Int)=((m%33:Nat):Int):=rfl
    rw [this,cj (by omega) (by omega)]
  generalize n%2500=k at hk ek
  generalize m%33=b at hb eb
  have hmany:=yL (g:=g) (k:=k) hb
  have hc:=CS g b hk
  have hol:=kW (cI g b k)
  have hol2:=mj (cs:=cI g b k) (cI g b k).length
  have hcl:(cI g b k).length=k:=by unfold cI;rw [List.length_map,List.length_range]
  obtain ⟨hE,hP⟩:=CY g hb
  have hN:=uX g hb
  have hN2:cW g b≤4077:=Nat.le_trans (Nat.div_le_self _ _) (by omega)
  have hEp:=pZ b
  generalize hL:(bh (cI g b k)).length=M at hmany
  have hM:M≤2500:=by omega
  have hw:IntKind.wrap .i64 (Int.tdiv (IntKind.wrap IntKind.i64 (IntKind.wrap IntKind.i64 ((M:Int)+(cW g b:Int))-(1:Int))) (cW g b:Int))=((dO (cI g b k)).length:Int):=by
    rw [hmany,cj (z:=(M:Int)+(cW g b:Int)) (by omega) (by omega),show ((M:Int)+(cW g b:Int))-1=((M+cW g b-1:Nat):Int) by omega,cj (z:=((M+cW g b-1:Nat):Int)) (by omega) (by omega)]
    have e4:Int.tdiv ((M+cW g b-1:Nat):Int) (cW g b:Int)=(((M+cW g b-1)/cW g b:Nat):Int):=rfl
    have:(M+cW g b-1)/cW g b≤M+cW g b-1:=Nat.div_le_self _ _
    rw [e4,cj (by omega) (by omega)]
  refine VCx.keepQ 0 0 (Nat.le_refl _) (Nat.le_refl _) (ah ac aa (az fun p hp=> ?_) (bw fun p hp=> ?_) (F5 n m (cW g b) ((dO (cI g b k)).length:Int) g k b (bY g b k) ((bh (cI g b k)).map aj) ((dO (cI g b k)).map UpV.cells) _) ⟨rfl,⟨rfl,rfl,rfl,⟨rfl,trivial⟩,rfl,rfl,by rw [ek,eb]⟩,⟨cI g b k,fun tok=>pY g b k tok,hc,rfl⟩, ?_⟩)
  · rcases List.mem_cons.1 hp with rfl | hp;exact CV _
    rcases List.mem_cons.1 hp with rfl | hp;exact yG _
    obtain rfl:=List.mem_singleton.1 hp;exact Fb
  · obtain rfl:=List.mem_singleton.1 hp
    exact bL (CX g hk hb)
  · have hq:bb BinOp.eql (ak (Value.int IntKind.i64 (↑(List.length ((dO (cI g b k)).map UpV.cells)):Int)) (Value.int IntKind.i64 ((dO (cI g b k)).length:Int)))=true:=by
      rw [sq,List.length_map];exact decide_eq_true rfl
    rw [hP,List.length_map,hL]
    have hd:∀a:Int,a=(4077-mt g:Nat)→aU Try.prog (fun _=>none) (.binOp .quo 3 (.tmp 53) (.tmp 57) 3) [(53, .val (.int .i64 a)),(57, .val (.int .i64 (iR b:Int)))] (.val (.int .i64 (cW g b:Int))):=fun a ha=>by
      have:=qT (P:=Try.prog) (G:=fun _=>none) (t:=3) (t2:=3) (x:=53) (y:=57) (a:=a) (b:=(iR b:Int)) rfl Try.underlying3 (by omega)
      rw [hP,←ha] at hE
      rwa [hE] at this
    have hd2:aU Try.prog (fun _=>none) (.binOp .quo 3 (.tmp 62) (.tmp 63) 3) [(62, .val (.int .i64 (IntKind.wrap IntKind.i64 (IntKind.wrap IntKind.i64 ((M:Int)+(cW g b:Int))-(1:Int))))),(63, .val (.int .i64 (cW g b:Int)))] (.val (.int .i64 ((dO (cI g b k)).length:Int))):=by
      have:=qT (P:=Try.prog) (G:=fun _=>none) (t:=3) (t2:=3) (x:=62) (y:=63) (a:=IntKind.wrap IntKind.i64 (IntKind.wrap IntKind.i64 ((M:Int)+(cW g b:Int))-(1:Int))) (b:=(cW g b:Int)) rfl Try.underlying3 (by omega)
      rwa [hw] at this
    cases g with
    | false=>exact bp rfl ⟨hd _ rfl,hd2,⟨cI false b k,fun tok=>pY false b k tok,hc,rfl⟩,bp hq ⟨rfl,rfl⟩⟩
    | true=>exact aX rfl ⟨hd _ rfl,hd2,⟨cI true b k,fun tok=>pY true b k tok,hc,rfl⟩,bp hq ⟨rfl,rfl⟩⟩
theorem wI {H:Type} {enc:TypeId × Value→H} {w:World} {b0 base:Nat} {held:Bool} {v:Value} {d:DataW H} {p:List MemPlace}
  (hv:Value.okWide Try.prog w .any b0 4 v) (h:DataW.Trod enc Try.prog w base (fun _=>true) held 4 v d p):∃b:Bool,v= .bool b:=by
 obtain ⟨x,h1,h2⟩:=wG (m:=9) (sh:= .bool) (by kernel_rfl) hv h
 obtain ⟨b,rfl⟩:=yN h2
 exact ⟨b,h1.val_inv⟩
theorem Gx {q:IntKind} {z:Int} (h:(Lit.int q z).wf=true):q.min≤z∧z≤q.max:=by
 simp [Lit.wf] at h
 exact h
theorem yP (n:Int) (g:Bool) (m:Int) (hn:(Lit.int .u16 n).wf=true) (hm:(Lit.int .u8 m).wf=true) (w:World):Calls Try.prog 5 #[.int .u16 n, .bool g, .int .u8 m] w fun e w' =>e= .returned (.bool true)∧Gr w w' :=by
 have h1:=Gx hn
 have h2:=Gx hm
 have e0:IntKind.u16.min=0:=by decide
 have e1:IntKind.u16.max=65535:=by decide
 have e2:IntKind.u8.min=0:=by decide
 have e3:IntKind.u8.max=255:=by decide
 exact VCx.top (us:= [.int .u16 n, .bool g, .int .u8 m]) ((Fk n m g (by omega) (by omega)).mono fun x T' h=>by rw [h.1];unfold pK;first | rfl | trivial) w (VRs.cons (.val _) (VRs.cons (.val _) (VRs.cons (.val _) (VRs.nil _ _))))
end
section
open Go.ChangeShapes Go.WideShapes Go.ChangeAt Go.RowKit Go.Joins

theorem CZ:ownKnob Try.prog.godebug=none:=by kernel_rfl
theorem nZ:laidOutB Try.prog=true:=by kernel_rfl

end
section
open Go.ChangeShapes Go.WideShapes Go.ChangeAt Go.RowKit

theorem pj (os:Os) (started:os.Started) (H:Type) (enc:TypeId × Value→H):
    ReturnsInHanded {} Try.checked os 5 .any (Rows.packManySpec.pre6 enc Try.prog Try.f5 Rows.packManyRow.domain false) (Rows.packManySpec.post enc Try.prog Try.f5 false true false false):=by
  refine returnsInHanded_of_change (C:=Try.checked) CZ started (by kernel_rfl) Try.func5
    (ChangeSpec.witness6 (enc:=enc) (C:=Try.checked) false ⟨#[], #[.int .u16 0, .bool false, .int .u8 0], []⟩ 8 (by kernel_rfl) (by kernel_rfl) (by kernel_rfl) (by kernel_rfl)) ?_
  intro W base args ds gs before hval0 hW hcnd _
  have hval:∀(j:Nat) t v,Try.f5.params[j]?=some t→args[j]?=some v→Value.okWide Try.prog W .any base t v:=hval0
  have hW' :=hW
  obtain ⟨p,q,hA0,hV,rfl,hfz,hnd⟩:=hW
  have hA:DataW.TrodAll enc Try.prog W 0 (fun _=>true) true Try.f5.params.toList args.toList ds p:=hA0
  rw [Try.params5] at hA hval
  obtain ⟨v0,vs0,d0,ds0,p0,q0,hargs,rfl,rfl,h0,r0⟩:=trodAll_cons hA
  obtain ⟨v1,vs1,d1,ds1,p1,q1,rfl,rfl,rfl,h1,r1⟩:=trodAll_cons r0
  obtain ⟨v2,vs2,d2,ds2,p2,q2,rfl,rfl,rfl,h2,r2⟩:=trodAll_cons r1
  obtain ⟨rfl,rfl,rfl⟩:=trodAll_nil r2
  obtain rfl:args= #[v0,v1,v2]:=by cases args;simp_all
  obtain ⟨rfl,rfl⟩:=trodVars_none hV
  have lt0:∀x∈p0,x.block<W.heap.size:=by obtain ⟨m,hm⟩:=h0;exact DataW.trod_lt m _ _ _ hm
  have lt1:∀x∈p1,x.block<W.heap.size:=by obtain ⟨m,hm⟩:=h1;exact DataW.trod_lt m _ _ _ hm
  have lt2:∀x∈p2,x.block<W.heap.size:=by obtain ⟨m,hm⟩:=h2;exact DataW.trod_lt m _ _ _ hm
  obtain ⟨l0,rfl,_,_,l0w⟩:=open_int Try.underlying56 (hval 0 56 v0 rfl rfl) h0
  obtain ⟨l1,rfl⟩:=wI (hval 1 4 v1 rfl rfl) h1
  obtain ⟨l2,rfl,_,_,l2w⟩:=open_int Try.underlying5 (hval 2 5 v2 rfl rfl) h2
  clear hA0 hval0
  refine (yP l0 l1 l2 l0w l2w W).mono fun e W' ⟨he,bel⟩=> ?_
  subst he
  exact ⟨_,rfl,_,_,_, [],_, [],hW',trodAll_mk1 (shut_bool Try.underlying4 _),(trodAll_cons_mk (Below.trod nZ (by kernel_rfl) (of_decide_eq_true (by kernel_rfl)) h0 bel lt0) (trodAll_cons_mk (Below.trod nZ (by kernel_rfl) (of_decide_eq_true (by kernel_rfl)) h1 bel lt1) (trodAll_cons_mk (Below.trod nZ (by kernel_rfl) (of_decide_eq_true (by kernel_rfl)) h2 bel lt2) trodAll_mk0))),rfl,Below.frame bel _,fun h=>by cases h⟩

theorem packMany_holds:Rows.PackManySaid:=
  OpenClaim.holds_of_wide 5 Try.f5 rfl rfl rfl rfl rfl rfl rfl ⟨rfl,rfl,rfl,rfl,rfl⟩ rfl rfl rfl rfl rfl (by kernel_rfl) Try.func5 (by kernel_rfl)
    (of_decide_eq_true (by kernel_rfl)) (by unfold Func.isWrapper;first | (rw [if_pos (by decide+kernel)];kernel_rfl) | (rw [if_neg (by decide+kernel)];exact ⟨rfl,rfl⟩))
    (fun os started H enc _=>pj os started H enc)
#print axioms packMany_holds
end

end Go.Proofs.Ytnfplefcghadfaa