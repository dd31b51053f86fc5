/-Part 6 of the proof of packWhole_holds:Vtm,Vta,PkC ... No condition. -/
import Derived.Test.YtnfplefcghadfaaPw1
import Derived.Test.YtnfplefcghadfaaPw2
import Derived.Test.YtnfplefcghadfaaPw3
import Derived.Test.YtnfplefcghadfaaPw4
import Derived.Test.YtnfplefcghadfaaPw5
set_option maxRecDepth 100000
namespace Go.Proofs.Ytnfplefcghadfaa
section
open Go.RowKit

def FreeM (m:Nat) (x:TV):Prop:=∀g g' w u,(∀id b,g.obj id=some b→g'.obj id=some b)→(∀b o,g.st b o→b<m→g'.st b o)→VR g w x u→VR g' w x u
theorem FreeT.toM {m:Nat} {x:TV} (h:FreeT x):FreeM m x:=fun g g' w u ho _ hv=>h g w g' w u ho hv
theorem FreeM.arg {m sz:Nat} {es:List (List TV)} (h:∀c∈es.flatten,FreeT c):FreeM m (.vec sz es (.arg m)):=fun g g' w u ho hs hv=>by
 cases hv with
 | nil hk=>exact .nil trivial
 | odd a hk=>exact .odd a hk
 | @vec _ _ _ b o c us hn hc hz ht hl h1 hst hw hvs=>
  refine .vec hn hc hz ht hl h1 (fun j hj=>hs _ _ (hst j hj) ?_) hw fun j x u hx hu=>h x (List.mem_of_getElem? hx) g w g' w u ho (hvs j x u hx hu)
  have ht' :es.length=0∨(b<m∧m≤w.heap.size):=ht
  rcases ht' with h0 | h0
  ·have:es= []:=List.eq_nil_of_length_eq_zero h0
   subst this
   simp at hj
  ·exact h0.1
theorem zI {m:Nat} {g g' :Gh} {w:World} {cs:List TV} {us:List Value} (hc:∀c∈cs,FreeM m c) (ho:∀id b,g.obj id=some b→g'.obj id=some b) (hs:∀b o,g.st b o→b<m→g'.st b o) (h:VRs g w cs us):VRs g' w cs us:=
 ⟨h.1,fun j x u hx hu=>hc x (List.mem_of_getElem? hx) g g' w u ho hs (h.2 j x u hx hu)⟩
theorem DV {m:Nat} {g0 g:Gh} {w0 w:World} {T0 T:VT} (e0:Evo g0 w0 g w) (r0:RW g0 T0 w0) (r:RW g T w) {k e size:Nat} {es:List (List TV)} {u:Value} (hk:T0.tails.length≤k) (hT:T.tails[k]?=some (e,size,true)) (hn:es.length=e) (hpos:0<e)
    (hs:VR g w (.vec size es (.tail k e)) u) (hm:m≤w0.heap.size) (hes:∀c∈es.flatten,FreeM m c) (hob:∀o∈T.objs,xm o) (hol:T0.objs.length≤T.objs.length):
    ∃g2,Evo g0 w0 g2 w∧RW g2 ⟨T.objs++ [.row es.flatten],T.tails.set k (e+1,size,false)⟩ w∧VR g2 w (.row size T.objs.length 0 es.length) u:=by
  obtain ⟨x,hxt,hxe,hxz,hxx⟩:=r.tl k _ hT
  simp only at hxe hxz
  obtain ⟨hxz,hxb⟩:=hxz
  have hes0:0<es.length:=by omega
  obtain ⟨b,o,c,us,rfl,a1,a2,a3,a4,a5,a6,a7,a8⟩:∃b o c us,u= .slice (some ⟨b,o,none⟩) es.length c∧es.length≤c∧c≤maxLen∧(∀e∈es,e.length=size)∧TokOk g w (.tail k e) size es.length b o c∧VRs g w es.flatten us∧(∀j,j<es.flatten.length→g.st b (o+j))∧(∀(j:Nat) v,us[j]?=some v→w.cell? ⟨b,o+j,none⟩=some v)∧∀u∈us,u.oneCell' =true:=by
    rcases hs.vec_inv with ⟨_,he,_⟩ | h | ⟨_,_,he,_⟩
    · rw [he] at hes0;simp at hes0
    · exact h
    · rw [he] at hes0;simp at hes0
  obtain ⟨y,q1,q2,q3,_,q5⟩:=a4
  rw [hxt] at q1;injection q1 with q1;subst q1
  obtain ⟨_,q6⟩:=q5 hxe hxb
  obtain ⟨hxo,p1,p2,p3⟩:=q6 (by omega) (by omega)
  subst p1 p2
  obtain ⟨⟨cur,hblk,hcur⟩,hff,hfl,hlo,hnfr⟩:=r.own k x hxt hxo (by omega)
  have hw0:w0.heap.size≤x.b:=Nat.le_trans (e0.tnew k x (r0.tout k hk) hxt) hlo
  obtain ⟨g2,hg2⟩:∃g2:Gh,g2={g with obj:=fun i=>if i=T.objs.length then some x.b else g.obj i,tail:=fun i=>if i=k then some {x with lim:=x.f,own:=false,born:=false,e:=e+1} else g.tail i,st:=fun b o=>g.st b o∧b≠x.b}:=⟨_,rfl⟩
  have gobj:∀id,id≠T.objs.length→g2.obj id=g.obj id:=fun id h=>by rw [hg2];simp [h]
  have gnew:g2.obj T.objs.length=some x.b:=by rw [hg2];simp
  have oeq:∀id b,g.obj id=some b→g2.obj id=some b:=fun id b h=>by
    rw [gobj id]; · exact h
    · rintro rfl;rw [r.out _ (Nat.le_refl _)] at h;cases h
  have gfr:g2.fr=g.fr:=by rw [hg2]
  have gst:∀b o,g2.st b o→g.st b o∧b≠x.b:=fun b o h=>by rw [hg2] at h;exact h
  have gtk:g2.tail k=some {x with lim:=x.f,own:=false,born:=false,e:=e+1}:=by rw [hg2];simp
  have gtn:∀j,j≠k→g2.tail j=g.tail j:=fun j hj=>by rw [hg2];simp [hj]
  have hst0:∀b o,g0.st b o→b≠x.b:=fun b o h hb=>by
    obtain ⟨u,hu⟩:=Option.isSome_iff_exists.1 (r0.st b o h)
    have:=dQ hu
    simp at this;omega
  have ev:Evo g0 w0 g2 w:=by
    refine ⟨e0.os,e0.tape,e0.output,e0.size,fun id b hb=>oeq id b (e0.obj id b hb),fun b o h=>⟨?_,(e0.st b o h).2⟩,by rw [gfr];exact e0.fr,e0.frb,fun b o hb h=>e0.frs b o hb (gst b o h).1,fun j y hy=> ?_,fun j y h1 h2=> ?_,e0.csz⟩
    · rw [hg2];exact ⟨(e0.st b o h).1,hst0 b o h⟩
    · have hj:j≠k:=by rintro rfl;rw [r0.tout j hk] at hy;cases hy
      rw [gtn j hj];exact e0.tail j y hy
    · by_cases hj:j=k
      · subst hj;rw [gtk] at h2;injection h2 with h2;subst h2;exact e0.tnew j x h1 hxt
      · rw [gtn j hj] at h2;exact e0.tnew j y h1 h2
  have hobjne:∀(id:Nat) oo b,T.objs[id]?=some oo→oo.live=true→g.obj id=some b→b≠x.b:=fun id oo b h1 h2 h3 hb=>r.tobj id oo b k x h1 h2 h3 hxt (.inr ⟨hxo,by omega,hb.symm⟩)
  have hasle:∀b,({x with lim:=x.f,own:=false,born:=false,e:=e+1}:Tl).has b→False:=fun b h=>by
    rcases h with ⟨o,_,h1,h2⟩ | ⟨h,_⟩
    · simp only at h1 h2;omega
    · cases h
  have hob2:∀(id:Nat) oo,(T.objs++ [.row es.flatten])[id]?=some oo→(id<T.objs.length∧T.objs[id]?=some oo)∨(id=T.objs.length∧oo= .row es.flatten):=fun id oo h=>by
    rcases Nat.lt_trichotomy id T.objs.length with h1 | h1 | h1
    · rw [List.getElem?_append_left h1] at h;exact .inl ⟨h1,h⟩
    · subst h1;simp at h;exact .inr ⟨rfl,h.symm⟩
    · rw [List.getElem?_eq_none (by simp;omega)] at h;cases h
  have hfl3:=bd a3
  have hcl:cur.toList.length=c*size:=by rw [Array.length_toList,hcur,p3]
  have hul:us.length=es.length*size:=by rw [a5.1,hfl3]
  have hle2:es.length*size≤c*size:=Nat.mul_le_mul_right _ a1
  have htake:cur.toList.take es.flatten.length=us:=by
    rw [hfl3]
    apply List.ext_getElem?
    intro j
    rw [List.getElem?_take]
    split
    · rename_i hj
      have h9:us[j]?=some us[j]:=List.getElem?_eq_getElem (by omega)
      have h10:=a7 j us[j] h9
      rw [h9]
      simpa [World.cell?,hblk] using h10
    · rename_i hj;rw [List.getElem?_eq_none (by omega)]
  have rw2:RW g2 ⟨T.objs++ [.row es.flatten],T.tails.set k (e+1,size,false)⟩ w:=by
    refine ⟨?_, ?_, ?_, ?_, ?_, ?_, ?_, ?_, ?_, ?_, ?_, ?_⟩
    · intro id oo h hl
      rcases hob2 id oo h with ⟨h0,h1⟩ | ⟨rfl,rfl⟩
      · obtain ⟨b,h3,h4,h5,h6⟩:=r.obj id oo h1 hl
        exact ⟨b,by rw [gobj id (by omega)];exact h3,Dc oeq (hob oo (List.mem_of_getElem? h1)) h4,by rw [gfr];exact h5,fun o hs=>h6 o (gst b o hs).1⟩
      · refine ⟨x.b,gnew,⟨cur.toList,x.ty,by simpa using hblk,by rw [hfl3,hcl];exact hle2, ?_,fun u hu=> ?_⟩,by rw [gfr];exact hnfr,fun o hs=>(gst _ o hs).2 rfl⟩
        · rw [htake];exact zI hes oeq (fun b o hs hb=>by rw [hg2];exact ⟨hs,by omega⟩) a5
        · rw [htake] at hu;exact a8 u hu
    · intro i j oi oj b hi li hj lj b1 b2
      rcases hob2 i oi hi with ⟨h0,h1⟩ | ⟨rfl,rfl⟩
      · rw [gobj i (by omega)] at b1
        rcases hob2 j oj hj with ⟨h2,h3⟩ | ⟨rfl,rfl⟩
        · rw [gobj j (by omega)] at b2
          exact r.inj i j oi oj b h1 li h3 lj b1 b2
        · rw [gnew] at b2;injection b2 with b2;exact absurd b2.symm (hobjne i oi b h1 li b1)
      · rw [gnew] at b1;injection b1 with b1
        rcases hob2 j oj hj with ⟨h2,h3⟩ | ⟨rfl,rfl⟩
        · rw [gobj j (by omega)] at b2
          exact absurd b1.symm (hobjne j oj b h3 lj b2)
        · rfl
    · intro id hid
      simp only [List.length_append,List.length_cons,List.length_nil] at hid
      rw [gobj id (by omega)];exact r.out id (by omega)
    · intro b o h;exact r.st b o (gst b o h).1
    · intro b hb;rw [gfr] at hb;exact r.fr b hb
    · intro j p h
      simp only [List.getElem?_set] at h
      split at h
      · rename_i hj;subst hj
        split at h
        · injection h with h;subst h
          exact ⟨_,gtk,rfl,⟨hxz,rfl⟩,fun b o hin=>absurd (.inl ⟨o,hin⟩) (hasle b)⟩
        · cases h
      · rename_i hj
        obtain ⟨y,q1,q2,q3,q4⟩:=r.tl j p h
        have hj' :j≠k:=fun h=>hj h.symm
        refine ⟨y,by rw [gtn j hj'];exact q1,q2,q3,fun b o hin=> ?_⟩
        obtain ⟨s1,s2,s3,s4⟩:=q4 b o hin
        exact ⟨s1,s2,fun hs=>s3 (gst b o hs).1,by rw [gfr];exact s4⟩
    · intro j hj
      simp only [List.length_set] at hj
      have hlt:=j8 r hxt
      rw [gtn j (by omega)];exact r.tout j hj
    · intro i j y z b h1 h2 i1 i2
      by_cases hi:i=k
      · subst hi;rw [gtk] at h1;injection h1 with h1;subst h1;exact (hasle b i1).elim
      · by_cases hj:j=k
        · subst hj;rw [gtk] at h2;injection h2 with h2;subst h2;exact (hasle b i2).elim
        · rw [gtn i hi] at h1;rw [gtn j hj] at h2;exact r.tinj i j y z b h1 h2 i1 i2
    · intro i oi b j y hi li b1 hy hin
      by_cases hj:j=k
      · subst hj;rw [gtk] at hy;injection hy with hy;subst hy;exact (hasle b hin).elim
      · rw [gtn j hj] at hy
        rcases hob2 i oi hi with ⟨h0,h1⟩ | ⟨rfl,rfl⟩
        · rw [gobj i (by omega)] at b1;exact r.tobj i oi b j y h1 li b1 hy hin
        · rw [gnew] at b1;injection b1 with b1;subst b1
          exact hj (r.tinj j k y x x.b hy hxt hin (.inr ⟨hxo,by omega,rfl⟩))
    · intro j y hy d1 d2
      by_cases hj:j=k
      · subst hj;rw [gtk] at hy;injection hy with hy;subst hy;cases d1
      · rw [gtn j hj] at hy
        obtain ⟨s1,s3,s4,s5,s6⟩:=r.own j y hy d1 d2
        exact ⟨s1,s3,s4,s5,by rw [gfr];exact s6⟩
    · intro j y hy d1
      by_cases hj:j=k
      · subst hj;rw [gtk] at hy;injection hy with hy;subst hy;rcases d1 with d1 | d1<;>cases d1
      · rw [gtn j hj] at hy;exact r.own0 j y hy d1
    · intro j y hy
      by_cases hj:j=k
      · subst hj;rw [gtk] at hy;injection hy with hy;subst hy;exact r.tlo j x hxt
      · rw [gtn j hj] at hy;exact r.tlo j y hy
  refine ⟨g2,ev,rw2, ?_⟩
  have:=VR.row (g:=g2) (w:=w) (size:=size) (id:=T.objs.length) (off:=0) (n:=es.length) (c:=c) gnew (by have:=r.own k x hxt hxo (by omega);exact (Array.getElem?_eq_some_iff.1 hblk).1) a1 a2 (by rw [aN hblk,hcur,p3];simp)
  simpa using this
section
variable {P:Program} {G:ay}
theorem uZ {m:Nat} {c:Code} {n:Nat} {keys:List Nat} {ad:List (Nat × Nat)} {vs0 vs1:List TV} {T0 T1:VT} {slot k size:Nat} {es:List (List TV)} (hs:(ak n keys vs1)[slot]?=some (.vec size es (.tail k es.length))) (hT:T1.tails[k]?=some (es.length,size,true)) (hpos:0<es.length)
  (hm:∀(g:Gh) (w:World) (σ:List TV) (us:List Value) (T:VT),VRs g w σ us→pick keys (cf ad σ T).1=vs0→m≤w.heap.size) (hes:∀c∈es.flatten,FreeM m c) (hob:∀o∈T1.objs,xm o) (h:∀K,K .normal (ak n keys vs1) T1 []→VWx P G none 0 c (ak n keys vs0) T0 [] K):
  ∀rd ro σ T D K,vA n keys ad vs0 T0 T1 slot k size es rd ro σ T D K→VWx P G rd ro c σ T D K:=by
 rintro rd ro σ T D K ⟨⟨h1,h2,h3,h4,h5,h6,h7,hk⟩,hK⟩
 have hl:=bq (n:=n) (keys:=keys) (ad:=ad) (vs0:=vs0) (T0:=T0) (R:=fun K=>K .normal (ak n keys vs1) T1 []) h rd ro σ T D (fun e σ' T' D' =>e= .normal∧σ' =ak n keys vs1∧T' =T1∧D' = []) ⟨⟨h1,h2,h3,h4,h5,h6,h7⟩,rfl,rfl,rfl,rfl⟩
 subst h1 h2 h3
 have hn:=Nat.eq_of_beq_eq_true h6
 intro r g w a rw0 hG hσ hd hD hr
 refine wpIn_mono (hl r g w a rw0 hG hσ hd hD hr) ?_
 rintro e a' w' ⟨g',σ',T',D',⟨rfl,rfl,rfl,rfl⟩,e',r',hσ',hd',_,fx⟩
 obtain ⟨u,hu,hv⟩:=hσ'.at hs
 obtain ⟨g2,ev,rw2,v2⟩:=DV e' rw0 r' (Nat.le_of_ble_eq_true hk) hT rfl hpos hv (hm _ _ _ _ _ hσ h7) hes hob fx.len
 refine ⟨g2,_,_, [],hK,ev,rw2,xn ?_ hu v2,hd',(fun id hid=>by cases hid),⟨?_,fun i hi=>absurd hi (Nat.not_lt_zero i),fun i o b hi=>absurd hi (Nat.not_lt_zero i)⟩⟩
 ·rw [hσ'.1];simp [ak,gW,ft]
 ·have:=fx.len
  simp only [List.length_append,List.length_cons,List.length_nil];omega
end
end
section
open Go.RowKit

mutual
def oL (m:Nat):TV→TV
 | .vec 0 es tok=> .vec 0 es tok
 | .vec (sz+1) es _=> .vec (sz+1) (gX m es) (.arg m)
 | .agg cs=> .agg (lD m cs)
 | x=>x
def lD (m:Nat):List TV→List TV
 | []=> []
 | x::l=>oL m x::lD m l
def gX (m:Nat):List (List TV)→List (List TV)
 | []=> []
 | x::l=>lD m x::gX m l
end
theorem jk (m:Nat):∀l:List TV,lD m l=l.map (oL m)
 | []=>rfl
 | x::l=>by rw [lD,jk m l];rfl
theorem fT (m:Nat):∀l:List (List TV),gX m l=l.map fun c=>c.map (oL m)
 | []=>rfl
 | x::l=>by rw [gX,fT m l,jk];rfl
theorem lW (m:Nat) (l:List (List TV)):(gX m l).flatten=l.flatten.map (oL m):=by
 rw [fT,List.map_flatten]
theorem VR.toArg {g:Gh} {w:World} {x:TV} {u:Value} (h:VR g w x u):VR g w (oL w.heap.size x) u:=by
 induction h with
 | @vec size es tok b o c us hn hc hz ht hl h1 hs hw hv ih=>
  cases size with
  | zero=>exact .vec hn hc hz ht hl h1 hs hw hv
  | succ k=>
   have hle:(gX w.heap.size es).length=es.length:=by rw [fT,List.length_map]
   have hfl:(gX w.heap.size es).flatten.length=es.flatten.length:=by rw [lW,List.length_map]
   show VR g w (.vec (k+1) (gX w.heap.size es) (.arg w.heap.size)) _
   rw [←hle]
   refine .vec (by omega) hc (fun e he=> ?_) ?_ (by omega) h1 (fun j hj=>hs j (by omega)) hw (fun j x u hx hu=> ?_)
   ·rw [fT] at he
    obtain ⟨e0,he0,rfl⟩:=List.mem_map.1 he
    rw [List.length_map];exact hz e0 he0
   ·show (gX w.heap.size es).length=0∨(b<w.heap.size∧w.heap.size≤w.heap.size)
    rcases Nat.eq_zero_or_pos es.length with h0 | h0
    ·exact .inl (by omega)
    ·refine .inr ⟨?_,Nat.le_refl _⟩
     have h2:=bd hz
     have h3:0<us.length:=by rw [hl,h2];exact Nat.mul_pos h0 (Nat.succ_pos _)
     have h4:=hw 0 us[0] (List.getElem?_eq_getElem h3)
     exact dQ h4
   ·rw [lW,List.getElem?_map] at hx
    cases he:es.flatten[j]? with
    | none=>rw [he] at hx;cases hx
    | some y=>
     rw [he] at hx
     injection hx with hx
     subst hx
     exact ih j y u he hu
 | @nil size tok hk=>
  cases size with
  | zero=>exact .nil hk
  | succ k=>exact .nil trivial
 | @odd size tok a hk=>
  cases size with
  | zero=>exact .odd a hk
  | succ k=>exact .odd a (.inl rfl)
 | agg hl hv ih=>
  show VR g w (.agg (lD w.heap.size _)) _
  rw [jk]
  refine .agg (by rw [List.length_map];exact hl) fun j x u hx hu=> ?_
  rw [List.getElem?_map] at hx
  rename_i cs us
  cases he:cs[j]? with
  | none=>rw [he] at hx;cases hx
  | some y=>
   rw [he] at hx
   injection hx with hx
   subst hx
   exact ih j y u he hu
 | val v=>exact .val v
 | dead v=>exact .dead v
 | ptr hb=>exact .ptr hb
 | sl hb=>exact .sl hb
 | row h hb hn hm hc=>exact .row h hb hn hm hc
 | map h=>exact .map h
 | yld h=>exact .yld h
 | elt hl h1 hs hw hv ih=>exact .elt hl h1 hs hw hv
 | tup hl hv ih=>exact .tup hl hv
 | fn hl hv hl2 hv2=>exact .fn hl hv hl2 hv2
 | ifc h=>exact .ifc h
section
variable {P:Program} {G:ay}
theorem VCx.toArg {ro:Nat} {f:FuncId} {xs:List TV} {T:VT} {Q:TV→VT→Prop} (h:∀m,VCx P G ro f (lD m xs) T Q):VCx P G ro f xs T Q:=by
 intro g w us r hG hx
 refine h w.heap.size g w us r hG ⟨by rw [jk,List.length_map];exact hx.1,fun j x u hj hu=> ?_⟩
 rw [jk,List.getElem?_map] at hj
 cases he:xs[j]? with
 | none=>rw [he] at hj;cases hj
 | some y=>
  rw [he] at hj
  injection hj with hj
  subst hj
  exact (hx.2 j y u he hu).toArg
end
end
section
open Go.RowKit

abbrev dF:=23
def FO (l:List TV) (ok:Bool):Prop:=∃(p:Px) (a:AtV) (g:Bool) (m:Nat),l=rE p.1 p.2 m a g∧a.p.length≤9223372036854775807∧ok=tZ p a g
def CG (ok:Bool):aP:=fun _ ys T K=>match ys with
 | [.agg l]=>FO l ok∧K (.val (.bool ok)) T
 | _=>ar 84 default ys
def H9 (T1 T2:VT) (n:Nat):aP:=fun ro ys T K=>((@Eq Nat ro 0)∧(@Eq (List TV) ys [.row 8 1 0 n, .fn (.func 57) [] []])∧(@Eq VT T T1))∧K (.val (.tuple #[])) T2
def FP:aP:=fun ro ys T K=>((@Eq Nat ro 0)∧(@Eq (List TV) ys [.vec 8 [] (.tail 0 0), .fn (.func 57) [] []]))∧K (.val (.tuple #[])) T
def pO:List Nat:= [0,3,12,13,14]
def jK (L:Bs) (tk:Tok) (j:Int):List TV:= [.vec 8 L tk, .map 0, .vec 8 L tk, .val (.int .i64 L.length), .val (.int .i64 j)]
def rG (lk:ij) (es:ia) (ck:Nat):VT:=⟨[.map kP lk es ck], []⟩
def nV:List Nat:= [3,6,26,27,28]
def eU (L:Bs) (tk:Tok) (l:Bs) (j:Int):List TV:= [.map 0, .vec 8 l (.tail 0 l.length), .vec 8 L tk, .val (.int .i64 L.length), .val (.int .i64 j)]
def jm (lk:ij) (es:ia) (ck n:Nat):VT:=⟨[.map kP lk es ck], [(n,8,true)]⟩
def j4 (lk:ij) (es:ia) (ck n:Nat) (cs:List TV):VT:=⟨[.map kP lk es ck, .row cs], [(n+1,8,false)]⟩
def Iw (L:Bs) (tk:Tok) (lk:ij) (es:ia) (ck:Nat) (c0 c2:Code):Nat→Option (bD × Code):=b6 [(0,cO 54 pO [] (jK L tk 0) (rG (fun _=>none) [] 0) (fun K=>K .normal (ak 54 pO (jK L tk L.length)) (rG lk es ck) []),c0),(2,cO 54 nV [(6,8)] (eU L tk [] 0) (jm lk es ck 0) (fun K=>K .normal (ak 54 nV (eU L tk [] L.length)) (jm lk es ck 0) []),c2)]
def Ix (L:Bs) (tk:Tok) (lk:ij) (es:ia) (ck:Nat) (A:Bs) (c0 c2:Code):Nat→Option (bD × Code):=b6 [(0,cO 54 pO [] (jK L tk 0) (rG (fun _=>none) [] 0) (fun K=>K .normal (ak 54 pO (jK L tk L.length)) (rG lk es ck) []),c0),(2,vA 54 nV [(6,8)] (eU L tk [] 0) (jm lk es ck 0) (jm lk es ck A.length) 6 0 8 A,c2)]
theorem FQ (L:Bs) (tk:Tok) (lk:ij) (es:ia) (ck:Nat) (Q:TV→VT→Prop):aq Try.prog ae (ax [(t6,FP)]) (aG [(999998, .dead,none)]) 300 (Iw L tk lk es ck (am Try.prog dF 0) (am Try.prog dF 2)) 0 dF [.vec 8 L tk] ⟨[], []⟩ Q=
 ((am Try.prog dF (0:Nat)=am Try.prog dF (0:Nat))∧
 (((@Eq (Option Nat) .none .none)∧
 ((@Eq (Nat) 0 0)∧
 ((@Eq (List Nat) [] [])∧
 (True  ∧
 ((@Eq (VT) ⟨[(.map ⟨true, [(.int .u32),(.int .i64)]⟩ (fun _=> .none) [] 0)], []⟩ ⟨[(.map ⟨true, [(.int .u32),(.int .i64)]⟩ (fun _=> .none) [] 0)], []⟩)∧
 ((@Eq (Bool) true true)∧
 (@Eq (List TV) [(.vec 8 (L) (tk)),(.map 0),(.vec 8 (L) (tk)),(.val (.int .i64 ((↑(List.length L):Int)))),(.val (.int .i64 0))] [(.vec 8 (L) (tk)),(.map 0),(.vec 8 (L) (tk)),(.val (.int .i64 ((↑(List.length L):Int)))),(.val (.int .i64 0))])))))))∧
 ((am Try.prog dF (2:Nat)=am Try.prog dF (2:Nat))∧
 (((@Eq (Option Nat) .none .none)∧
 ((@Eq (Nat) 0 0)∧
 ((@Eq (List Nat) [] [])∧
 (((@Eq (Option TV) (.some (.val (.slice .none 0 0))) (.some (.val (.slice .none 0 0))))∧
 True)∧
 ((@Eq (VT) ⟨[(.map ⟨true, [(.int .u32),(.int .i64)]⟩ (lk) (es) (ck))], [(0,(8,true))]⟩ ⟨[(.map ⟨true, [(.int .u32),(.int .i64)]⟩ (lk) (es) (ck))], [(0,(8,true))]⟩)∧
 ((@Eq (Bool) true true)∧
 (@Eq (List TV) [(.map 0),(.vec 8 [] (.tail 0 0)),(.vec 8 (L) (tk)),(.val (.int .i64 ((↑(List.length L):Int)))),(.val (.int .i64 0))] [(.map 0),(.vec 8 [] (.tail 0 0)),(.vec 8 (L) (tk)),(.val (.int .i64 ((↑(List.length L):Int)))),(.val (.int .i64 0))])))))))∧
 (((@Eq (Nat) 0 0)∧
 (@Eq (List TV) [(.vec 8 [] (.tail 0 0)),(.fn (.func 57) [] [])] [(.vec 8 [] (.tail 0 0)),(.fn (.func 57) [] [])]))∧
 Q (.vec 8 [] (.tail 0 0)) ⟨[(.map ⟨true, [(.int .u32),(.int .i64)]⟩ (lk) (es) (ck))], [(0,(8,true))]⟩))))):=by kernel_rfl
theorem FR (L A B:Bs) (tk:Tok) (lk:ij) (es:ia) (ck:Nat) (Q:TV→VT→Prop):aq Try.prog ae (ax [(t6,H9 (j4 lk es ck A.length A.flatten) (j4 lk es ck A.length B.flatten) A.length)]) (aG [(999998, .dead,none)]) 300 (Ix L tk lk es ck A (am Try.prog dF 0) (am Try.prog dF 2)) 0 dF [.vec 8 L tk] ⟨[], []⟩ Q=
 ((am Try.prog dF (0:Nat)=am Try.prog dF (0:Nat))∧
 (((@Eq (Option Nat) .none .none)∧
 ((@Eq (Nat) 0 0)∧
 ((@Eq (List Nat) [] [])∧
 (True  ∧
 ((@Eq (VT) ⟨[(.map ⟨true, [(.int .u32),(.int .i64)]⟩ (fun _=> .none) [] 0)], []⟩ ⟨[(.map ⟨true, [(.int .u32),(.int .i64)]⟩ (fun _=> .none) [] 0)], []⟩)∧
 ((@Eq (Bool) true true)∧
 (@Eq (List TV) [(.vec 8 (L) (tk)),(.map 0),(.vec 8 (L) (tk)),(.val (.int .i64 ((↑(List.length L):Int)))),(.val (.int .i64 0))] [(.vec 8 (L) (tk)),(.map 0),(.vec 8 (L) (tk)),(.val (.int .i64 ((↑(List.length L):Int)))),(.val (.int .i64 0))])))))))∧
 ((am Try.prog dF (2:Nat)=am Try.prog dF (2:Nat))∧
 (((@Eq (Option Nat) .none .none)∧
 ((@Eq (Nat) 0 0)∧
 ((@Eq (List Nat) [] [])∧
 (((@Eq (Option TV) (.some (.val (.slice .none 0 0))) (.some (.val (.slice .none 0 0))))∧
 True)∧
 ((@Eq (VT) ⟨[(.map ⟨true, [(.int .u32),(.int .i64)]⟩ (lk) (es) (ck))], [(0,(8,true))]⟩ ⟨[(.map ⟨true, [(.int .u32),(.int .i64)]⟩ (lk) (es) (ck))], [(0,(8,true))]⟩)∧
 ((@Eq (Bool) true true)∧
 ((@Eq (List TV) [(.map 0),(.vec 8 [] (.tail 0 0)),(.vec 8 (L) (tk)),(.val (.int .i64 ((↑(List.length L):Int)))),(.val (.int .i64 0))] [(.map 0),(.vec 8 [] (.tail 0 0)),(.vec 8 (L) (tk)),(.val (.int .i64 ((↑(List.length L):Int)))),(.val (.int .i64 0))])∧
 (@Eq (Bool) true true))))))))∧
 (((@Eq (Nat) 0 0)∧
 ((@Eq (List TV) [(.row 8 1 0 (List.length A)),(.fn (.func 57) [] [])] [(.row 8 1 0 (List.length A)),(.fn (.func 57) [] [])])∧
 (@Eq (VT) ⟨[(.map ⟨true, [(.int .u32),(.int .i64)]⟩ (lk) (es) (ck)),(.row (List.flatten A))], [((List.length A+(1:Nat)),(8,false))]⟩ ⟨[(.map ⟨true, [(.int .u32),(.int .i64)]⟩ (lk) (es) (ck)),(.row (List.flatten A))], [((List.length A+(1:Nat)),(8,false))]⟩)))∧
 Q (.row 8 1 0 (List.length A)) ⟨[(.map ⟨true, [(.int .u32),(.int .i64)]⟩ (lk) (es) (ck)),(.row (List.flatten B))], [((List.length A+(1:Nat)),(8,false))]⟩))))):=by kernel_rfl
theorem zJ (L:Bs) (tk:Tok) (lk:ij) (es:ia) (ck:Nat) (a n:Int) (m:Nat) (x:AtV) (g ok:Bool) (j:Nat) (Q:Exit→List TV→VT→List Nat→Nat→Prop):vx Try.prog ae (ax [(zG,CG ok)]) (aG [(999998, .dead,none),(17, .elt (rE a n m x g),none)]) 300 az none 0 (bQ Try.prog dF 0) (ak 54 pO (jK L tk j)) (rG lk es ck) [] (ct pO Q)=
 (bif decide ((↑j:Int)<(↑(List.length L):Int))
 then (aW Try.prog (fun _=> .none) (.indexAddr 48 (.tmp 12) (.tmp 14)) [(12,(.vec 8 (L) (tk))),(14,(.val (.int .i64 ((↑j:Int)))))] (.elt [(.val (.int .u32 (a))),(.val (.int .i64 (n))),(.val (.int .i64 (AtV.o x))),(.vec 1 (iV (AtV.p x)) (.arg (m))),(.val (.int .u32 (AtV.h x))),(.val (.int .i64 (AtV.m x))),(.val (.bool (AtV.hm x))),(.val (.bool (g)))])∧
 (FO [(.val (.int .u32 (a))),(.val (.int .i64 (n))),(.val (.int .i64 (AtV.o x))),(.vec 1 (iV (AtV.p x)) (.arg (m))),(.val (.int .u32 (AtV.h x))),(.val (.int .i64 (AtV.m x))),(.val (.bool (AtV.hm x))),(.val (.bool (g)))] (ok)∧
 (bif ok
 then Q .normal [(.vec 8 (L) (tk)),(.map 0),(.vec 8 (L) (tk)),(.val (.int .i64 ((↑(List.length L):Int)))),(.val (.int .i64 (IntKind.wrap IntKind.i64 ((↑j:Int)+(1:Int)))))] ⟨[(.map ⟨true, [(.int .u32),(.int .i64)]⟩ (fun kk=>(bif an ((fun vs=>Value.agg (List.toArray vs)) ((fun x=>Value.int IntKind.u32 a::x) ((fun x=>Value.int IntKind.i64 n::x) []))) kk then (.some (.val (.int .i64 ((↑j:Int))))) else (lk kk))) (cq (.agg #[(.int .u32 (a)),(.int .i64 (n))]) (.val (.int .i64 ((↑j:Int)))) (ck) (es)) (match lk ((fun vs=>Value.agg (List.toArray vs)) ((fun x=>Value.int IntKind.u32 a::x) ((fun x=>Value.int IntKind.i64 n::x) []))) with
| some val=>ck
| none=>ck+(1:Nat))),(.cells [(.val (.int .u32 (a))),(.val (.int .i64 (n))),(.val (.int .i64 (AtV.o x))),(.vec 1 (iV (AtV.p x)) (.arg (m))),(.val (.int .u32 (AtV.h x))),(.val (.int .i64 (AtV.m x))),(.val (.bool (AtV.hm x))),(.val (.bool (g)))])], []⟩ [] 54
 else Q .normal [(.vec 8 (L) (tk)),(.map 0),(.vec 8 (L) (tk)),(.val (.int .i64 ((↑(List.length L):Int)))),(.val (.int .i64 (IntKind.wrap IntKind.i64 ((↑j:Int)+(1:Int)))))] ⟨[(.map ⟨true, [(.int .u32),(.int .i64)]⟩ (lk) (es) (ck)),(.cells [(.val (.int .u32 (a))),(.val (.int .i64 (n))),(.val (.int .i64 (AtV.o x))),(.vec 1 (iV (AtV.p x)) (.arg (m))),(.val (.int .u32 (AtV.h x))),(.val (.int .i64 (AtV.m x))),(.val (.bool (AtV.hm x))),(.val (.bool (g)))])], []⟩ [] 54)))
 else Q (.exit 0) [(.vec 8 (L) (tk)),(.map 0),(.vec 8 (L) (tk)),(.val (.int .i64 ((↑(List.length L):Int)))),(.val (.int .i64 ((↑j:Int))))] ⟨[(.map ⟨true, [(.int .u32),(.int .i64)]⟩ (lk) (es) (ck))], []⟩ [] 54):=by kernel_rfl
theorem zK (L l l2:Bs) (tk:Tok) (lk:ij) (es:ia) (ck:Nat) (a n i:Int) (m n2:Nat) (x:AtV) (g b:Bool) (j:Nat) (tl2:mI) (Q:Exit→List TV→VT→List Nat→Nat→Prop):vx Try.prog ae aS (aG [(999998, .dead,none),(31, .elt (rE a n m x g),none),(37, .tup [.val (.int .i64 i), .val (.bool b)],some fun T=>T),(49, .vec 8 l2 (.tail 0 n2),some fun T=>{T with tails:=tl2})]) 300 az none 0 (bQ Try.prog dF 2) (ak 54 nV (eU L tk l j)) (jm lk es ck l.length) [] (ct nV Q)=
 (bif decide ((↑j:Int)<(↑(List.length L):Int))
 then (aW Try.prog (fun _=> .none) (.indexAddr 48 (.tmp 26) (.tmp 28)) [(26,(.vec 8 (L) (tk))),(28,(.val (.int .i64 ((↑j:Int)))))] (.elt [(.val (.int .u32 (a))),(.val (.int .i64 (n))),(.val (.int .i64 (AtV.o x))),(.vec 1 (iV (AtV.p x)) (.arg (m))),(.val (.int .u32 (AtV.h x))),(.val (.int .i64 (AtV.m x))),(.val (.bool (AtV.hm x))),(.val (.bool (g)))])∧
 (aZ Try.prog (fun _=> .none) 0 ⟨[(.map ⟨true, [(.int .u32),(.int .i64)]⟩ (lk) (es) (ck)),(.cells [(.val (.int .u32 (a))),(.val (.int .i64 (n))),(.val (.int .i64 (AtV.o x))),(.vec 1 (iV (AtV.p x)) (.arg (m))),(.val (.int .u32 (AtV.h x))),(.val (.int .i64 (AtV.m x))),(.val (.bool (AtV.hm x))),(.val (.bool (g)))])], [((List.length l),(8,true))]⟩ (.lookup 99 (.tmp 34) (.tmp 36) true) [(34,(.map 0)),(36,(.agg [(.val (.int .u32 (a))),(.val (.int .i64 (n)))]))] (.tup [(.val (.int .i64 (i))),(.val (.bool (b)))]) ⟨[(.map ⟨true, [(.int .u32),(.int .i64)]⟩ (lk) (es) (ck)),(.cells [(.val (.int .u32 (a))),(.val (.int .i64 (n))),(.val (.int .i64 (AtV.o x))),(.vec 1 (iV (AtV.p x)) (.arg (m))),(.val (.int .u32 (AtV.h x))),(.val (.int .i64 (AtV.m x))),(.val (.bool (AtV.hm x))),(.val (.bool (g)))])], [((List.length l),(8,true))]⟩∧
 (bif b
 then (bif aT BinOp.eql (an (Value.int IntKind.i64 i) (Value.int IntKind.i64 (↑j:Int)))
 then (aZ Try.prog (fun _=> .none) 0 ⟨[(.map ⟨true, [(.int .u32),(.int .i64)]⟩ (lk) (es) (ck)),(.cells [(.val (.int .u32 (a))),(.val (.int .i64 (n))),(.val (.int .i64 (AtV.o x))),(.vec 1 (iV (AtV.p x)) (.arg (m))),(.val (.int .u32 (AtV.h x))),(.val (.int .i64 (AtV.m x))),(.val (.bool (AtV.hm x))),(.val (.bool (g)))])], [((List.length l),(8,true))]⟩ (.call ⟨(.builtin .append), #[(.tmp 46),(.tmp 48)], #[48,48]⟩) [(46,(.vec 8 (l) (.tail 0 (List.length l)))),(48,(.vec 8 [[(.val (.int .u32 (a))),(.val (.int .i64 (n))),(.val (.int .i64 (AtV.o x))),(.vec 1 (iV (AtV.p x)) (.arg (m))),(.val (.int .u32 (AtV.h x))),(.val (.int .i64 (AtV.m x))),(.val (.bool (AtV.hm x))),(.val (.bool (g)))]] .full))] (.vec 8 (l2) (.tail 0 (n2))) ⟨[(.map ⟨true, [(.int .u32),(.int .i64)]⟩ (lk) (es) (ck)),(.cells [(.val (.int .u32 (a))),(.val (.int .i64 (n))),(.val (.int .i64 (AtV.o x))),(.vec 1 (iV (AtV.p x)) (.arg (m))),(.val (.int .u32 (AtV.h x))),(.val (.int .i64 (AtV.m x))),(.val (.bool (AtV.hm x))),(.val (.bool (g)))])],(tl2)⟩∧
 Q .normal [(.map 0),(.vec 8 (l2) (.tail 0 (n2))),(.vec 8 (L) (tk)),(.val (.int .i64 ((↑(List.length L):Int)))),(.val (.int .i64 (IntKind.wrap IntKind.i64 ((↑j:Int)+(1:Int)))))] ⟨[(.map ⟨true, [(.int .u32),(.int .i64)]⟩ (lk) (es) (ck)),(.cells [(.val (.int .u32 (a))),(.val (.int .i64 (n))),(.val (.int .i64 (AtV.o x))),(.vec 1 (iV (AtV.p x)) (.arg (m))),(.val (.int .u32 (AtV.h x))),(.val (.int .i64 (AtV.m x))),(.val (.bool (AtV.hm x))),(.val (.bool (g)))])],(tl2)⟩ [] 54)
 else Q .normal [(.map 0),(.vec 8 (l) (.tail 0 (List.length l))),(.vec 8 (L) (tk)),(.val (.int .i64 ((↑(List.length L):Int)))),(.val (.int .i64 (IntKind.wrap IntKind.i64 ((↑j:Int)+(1:Int)))))] ⟨[(.map ⟨true, [(.int .u32),(.int .i64)]⟩ (lk) (es) (ck)),(.cells [(.val (.int .u32 (a))),(.val (.int .i64 (n))),(.val (.int .i64 (AtV.o x))),(.vec 1 (iV (AtV.p x)) (.arg (m))),(.val (.int .u32 (AtV.h x))),(.val (.int .i64 (AtV.m x))),(.val (.bool (AtV.hm x))),(.val (.bool (g)))])], [((List.length l),(8,true))]⟩ [] 54)
 else Q .normal [(.map 0),(.vec 8 (l) (.tail 0 (List.length l))),(.vec 8 (L) (tk)),(.val (.int .i64 ((↑(List.length L):Int)))),(.val (.int .i64 (IntKind.wrap IntKind.i64 ((↑j:Int)+(1:Int)))))] ⟨[(.map ⟨true, [(.int .u32),(.int .i64)]⟩ (lk) (es) (ck)),(.cells [(.val (.int .u32 (a))),(.val (.int .i64 (n))),(.val (.int .i64 (AtV.o x))),(.vec 1 (iV (AtV.p x)) (.arg (m))),(.val (.int .u32 (AtV.h x))),(.val (.int .i64 (AtV.m x))),(.val (.bool (AtV.hm x))),(.val (.bool (g)))])], [((List.length l),(8,true))]⟩ [] 54)))
 else Q (.exit 2) [(.map 0),(.vec 8 (l) (.tail 0 (List.length l))),(.vec 8 (L) (tk)),(.val (.int .i64 ((↑(List.length L):Int)))),(.val (.int .i64 ((↑j:Int))))] ⟨[(.map ⟨true, [(.int .u32),(.int .i64)]⟩ (lk) (es) (ck))], [((List.length l),(8,true))]⟩ [] 54):=by kernel_rfl
end
section
open Go.RowKit
set_option maxRecDepth 100000

theorem zL (p:Px) (m:Nat) (a:AtV) (g:Bool):TVleL (rE p.1 p.2 m a g) (fA p.1 p.2 a g):=⟨.refl _, .refl _, .refl _, .vec 1 _ _, .refl _, .refl _, .refl _, .refl _,trivial⟩
theorem FS (ok:Bool):∀ro ys T K,CG ok ro ys T K→VCx Try.prog ae ro zG ys T K:=by
 intro ro ys T K hw
 unfold CG at hw
 split at hw
 ·obtain ⟨⟨p,a,g,m,rfl,ha,rfl⟩,hk⟩:=hw
  refine VCx.argsLe (xs:= [.agg (fA p.1 p.2 a g)]) ⟨.agg (zL p m a g),trivial⟩ ?_
  refine VCx.liftPure ap (FL p g ha) ?_ (fun _ _=>rfl) hk
  simp only [av,TV.ren,AtV.cells,dL,Tok.ren,fA,List.cons_append,List.nil_append]
 ·exact hw.elim
end
section
open Go.RowKit

structure RowI (P:Program) (t e:TypeId) (n:Nat):Prop where
 sl:P.underlying t=some (.slice e)
 ex:∃(inf:TypeInfo) (z:Value),P.info? e=some inf∧inf.size=n∧inf.bytes+1≤1000∧inf.zero=some z∧z.cells.size=n
 pos:0<n
section
variable {P:Program} {G:ay} {t e:TypeId} {n:Nat}
theorem RowI.ix (h:RowI P t e n) {es:List (List TV)} {tok:Tok} {x i j:Nat} {cs:List TV} (hne:Nat.beq x i=false) (hp:es[j]?=some cs):aW P G (.indexAddr t (.tmp x) (.tmp i)) [(x, .vec n es tok),(i, .val (.int .i64 (j:Int)))] (.elt cs):=by
 obtain ⟨inf,z,i1,i2,i3,i4,i5⟩:=h.ex
 exact fu (inf:=inf) (es:=es) (tok:=tok) (k:= .i64) (z:=(j:Int)) h.sl i1 (by rw [i2];simp [aR,cR]) (by simp [aR,cR,hne]) (by omega) (by simpa using hp)
theorem RowI.hi (h:RowI P t e n) {es:List (List TV)} {tok:Tok} {x i j:Nat} (hne:Nat.beq x i=false) (hp:j≤es.length):aW P G (.slice t (.tmp x) none (some (.tmp i)) none) [(x, .vec n es tok),(i, .val (.int .i64 (j:Int)))] (.vec n (es.take j) .none):=by
 obtain ⟨inf,z,i1,i2,i3,i4,i5⟩:=h.ex
 have:=tu (P:=P) (G:=G) (t:=t) (x:= .tmp x) (i:= .tmp i) (l:= [(x, .vec n es tok),(i, .val (.int .i64 (j:Int)))]) (inf:=inf) (es:=es) (tok:=tok) (k:= .i64) (z:=(j:Int)) h.sl i1 (by rw [i2];simp [aR,cR]) (by simp [aR,cR,hne]) (by omega) (by simpa using hp)
 rw [i2] at this
 simpa using this
theorem RowI.lo (h:RowI P t e n) {es:List (List TV)} {tok:Tok} {x i j:Nat} (hne:Nat.beq x i=false) (hp:j≤es.length):aW P G (.slice t (.tmp x) (some (.tmp i)) none none) [(x, .vec n es tok),(i, .val (.int .i64 (j:Int)))] (.vec n (es.drop j) tok):=by
 obtain ⟨inf,z,i1,i2,i3,i4,i5⟩:=h.ex
 have:=Bc (P:=P) (G:=G) (t:=t) (x:= .tmp x) (i:= .tmp i) (l:= [(x, .vec n es tok),(i, .val (.int .i64 (j:Int)))]) (inf:=inf) (es:=es) (tok:=tok) (k:= .i64) (z:=(j:Int)) h.sl i1 (by rw [i2];simp [aR,cR]) (by simp [aR,cR,hne]) (by omega) (by simpa using hp)
 rw [i2] at this
 simpa using this
theorem RowI.ix0 (h:RowI P t e n) {es:List (List TV)} {tok:Tok} {x:Nat} {cs:List TV} (hp:es[0]?=some cs):aW P G (.indexAddr t (.tmp x) (.const (.int .i64 0))) [(x, .vec n es tok)] (.elt cs):=by
 obtain ⟨inf,z,i1,i2,i3,i4,i5⟩:=h.ex
 exact fu (inf:=inf) (es:=es) (tok:=tok) (k:= .i64) (z:=0) h.sl i1 (by rw [i2];simp [aR,cR]) (by simp [aR];rfl) (by omega) (by simpa using hp)
theorem RowI.hm (h:RowI P t e n) {es:List (List TV)} {tok:Tok} {x i k j:Nat} (hne:Nat.beq x i=false) (hn2:Nat.beq x k=false) (hn3:Nat.beq i k=false) (hp:j≤es.length):aW P G (.slice t (.tmp x) none (some (.tmp i)) (some (.tmp k))) [(x, .vec n es tok),(i, .val (.int .i64 (j:Int))),(k, .val (.int .i64 (j:Int)))] (.vec n (es.take j) .none):=by
 obtain ⟨inf,z,i1,i2,i3,i4,i5⟩:=h.ex
 refine ⟨?_⟩
 have hb:Nat.ble j es.length=true:=Nat.ble_eq_true_of_le hp
 have hb2:Nat.ble j j=true:=Nat.ble_eq_true_of_le (Nat.le_refl _)
 have hb3:Nat.ble 0 j=true:=Nat.ble_eq_true_of_le (Nat.zero_le _)
 simp [hb2,hb3,aX,iE,aR,cR,hne,hn2,hn3,h.sl,i1,i2,ey,dH,hb]
theorem RowI.app (h:RowI P t e n) {T:VT} {k:Nat} {bn:Bool} {es es2:List (List TV)} {tok:Tok} {s x:Nat} (hk:T.tails[k]?=some (es.length,n,bn)) (hne:Nat.beq s x=false) (hl:es.length+es2.length≤100000000):
    aZ P G 0 T (.call ⟨.builtin .append, #[.tmp s, .tmp x], #[t,t]⟩) [(s, .vec n es (.tail k es.length)),(x, .vec n es2 tok)] (.vec n (es++es2) (.tail k (es.length+es2.length))) {T with tails:=T.tails.set k (es.length+es2.length,n,bn)}:=by
  obtain ⟨inf,z,i1,i2,i3,i4,i5⟩:=h.ex
  have h1:=mG (inf:=inf) (P:=P) (G:=G) (ro:=0) (T:=T) (T1:=T) (t:=t) (tx:=t) (s:= .tmp s) (x:= .tmp x) (l:= [(s, .vec n es (.tail k es.length)),(x, .vec n es2 tok)]) (es:=es) (es2:=es2) (k:=k) (n:=es.length) (bn:=bn) h.sl i1 i4 (by rw [i5,i2]) (by rw [i2];exact h.pos) (by rw [h.sl];rfl)
    (by rw [i2];simp [aR,cR,fm,hk]) (by rw [i2];simp [aR,cR,hne,gR])
    (by have h2:=Nat.mul_le_mul hl i3
        omega)
  rw [i2] at h1
  exact h1
end
end
section
open Go.RowKit
set_option maxRecDepth 100000

abbrev Ch:=Px × AtV × Bool
def cV (c:Ch):Bool:=tZ c.1 c.2.1 c.2.2
def aE (m:Nat) (c:Ch):List TV:=rE c.1.1 c.1.2 m c.2.1 c.2.2
theorem nW:RowI Try.prog 48 34 8:=⟨Try.underlying48,⟨(Try.prog.info? 34).getD default,((Try.prog.info? 34).getD default).zero.getD default,by kernel_rfl,by kernel_rfl,Nat.le_of_ble_eq_true (by kernel_rfl),by kernel_rfl,by kernel_rfl⟩,by omega⟩
theorem DW (m:Nat) (c:Ch) (f g:Nat→Option Nat):av f g (aE m c)=aE m c:=by
 simp only [aE,rE,av,TV.ren,dL,Tok.ren]
theorem lE (m:Nat) (f g:Nat→Option Nat) (cs:List Ch):bu f g (cs.map (aE m))=cs.map (aE m):=e6 (aE m) (fun a=>DW m a f g) cs
def eV (cs:List Ch):Nat→Px→Option Nat
 | 0,_=>none
 | j+1,p=>match cs[j]? with
  | some c=>bif cV c&&decide (c.1=p) then some j else eV cs j p
  | none=>eV cs j p
theorem oM {cs:List Ch} {j:Nat} {c:Ch} (h:cs[j]?=some c) (p:Px):eV cs (j+1) p=bif cV c&&decide (c.1=p) then some j else eV cs j p:=by
 simp only [eV,h]
theorem pP {cs:List Ch} {p:Px} {i:Nat}:∀{j:Nat},eV cs j p=some i→i<j∧∃c,cs[i]?=some c∧cV c=true∧c.1=p
 | 0,h=>by cases h
 | j+1,h=>by
  cases hc:cs[j]? with
  | none=>
   simp only [eV,hc] at h
   obtain ⟨h1,h2⟩:=pP h
   exact ⟨by omega,h2⟩
  | some c=>
   rw [oM hc] at h
   cases hb:cV c&&decide (c.1=p) with
   | true=>
    rw [hb,cond_true] at h
    injection h with h;subst h
    simp only [Bool.and_eq_true,decide_eq_true_eq] at hb
    exact ⟨by omega,c,hc,hb.1,hb.2⟩
   | false=>
    rw [hb,cond_false] at h
    obtain ⟨h1,h2⟩:=pP h
    exact ⟨by omega,h2⟩
def aM (cs:List Ch):Nat→ij × ia × Nat
 | 0=>(fun _=>none, [],0)
 | j+1=>match cs[j]? with
  | some c=>bif cV c then ((fun kk=>bif an (c6 c.1) kk then some (.val (.int .i64 (j:Int))) else (aM cs j).1 kk),cq (c6 c.1) (.val (.int .i64 (j:Int))) (aM cs j).2.2 (aM cs j).2.1,match (aM cs j).1 (c6 c.1) with
   | some _=>(aM cs j).2.2
   | none=>(aM cs j).2.2+1) else aM cs j
  | none=>aM cs j
def t7 (cs:List Ch) (j:Nat):VT:=rG (aM cs j).1 (aM cs j).2.1 (aM cs j).2.2
theorem oN {cs:List Ch} {j:Nat} {c:Ch} (h:cs[j]?=some c) (hg:cV c=true):aM cs (j+1)=((fun kk=>bif an (c6 c.1) kk then some (.val (.int .i64 (j:Int))) else (aM cs j).1 kk),cq (c6 c.1) (.val (.int .i64 (j:Int))) (aM cs j).2.2 (aM cs j).2.1,match (aM cs j).1 (c6 c.1) with
   | some _=>(aM cs j).2.2
   | none=>(aM cs j).2.2+1):=by
 simp only [aM,h,hg,cond_true]
theorem qK {cs:List Ch} {j:Nat} {c:Ch} (h:cs[j]?=some c) (hg:cV c=false):aM cs (j+1)=aM cs j:=by
 simp only [aM,h,hg,cond_false]
theorem t8 {cs:List Ch} {j:Nat} (h:cs[j]?=none):aM cs (j+1)=aM cs j:=by
 simp only [aM,h]
theorem mW {cs:List Ch} (p:Px):∀j,(aM cs j).1 (c6 p)=(eV cs j p).map fun i=> .val (.int .i64 (i:Int))
 | 0=>rfl
 | j+1=>by
  cases hc:cs[j]? with
  | none=>simp only [t8 hc,eV,hc];exact mW p j
  | some c=>
   rw [oM hc]
   cases hg:cV c with
   | false=>rw [qK hc hg];exact mW p j
   | true=>
    rw [oN hc hg]
    show (bif an (c6 c.1) (c6 p) then _ else _)=_
    rw [FJ]
    cases hd:decide (c.1=p) with
    | true=>rfl
    | false=>exact mW p j
theorem ub {Q:TV→Prop} {k:Value} {v:TV} {ck:Nat} (hv:Q v):∀{es:ia},(∀e∈es,Q e.2.1)→∀e∈cq k v ck es,Q e.2.1
 | [],_,e,he=>by
  simp only [cq,List.mem_singleton] at he
  subst he;exact hv
 | a::es,h,e,he=>by
  unfold cq at he
  cases hk:an k a.1 with
  | true=>
   rw [hk,cond_true] at he
   rcases List.mem_cons.1 he with rfl | he
   ·exact hv
   ·exact h e (List.mem_cons_of_mem _ he)
  | false=>
   rw [hk,cond_false] at he
   rcases List.mem_cons.1 he with rfl | he
   ·exact h _ List.mem_cons_self
   ·exact ub hv (fun e he=>h e (List.mem_cons_of_mem _ he)) e he
theorem qL {cs:List Ch}:∀j,(∀k x,(aM cs j).1 k=some x→∃v,x= .val v)∧∀e∈(aM cs j).2.1,∃v,e.2.1= .val v
 | 0=>⟨fun _ _ h=>by simp [aM] at h,fun _ h=>by simp [aM] at h⟩
 | j+1=>by
  obtain ⟨h1,h2⟩:=qL (cs:=cs) j
  cases hc:cs[j]? with
  | none=>rw [t8 hc];exact ⟨h1,h2⟩
  | some c=>
   cases hg:cV c with
   | false=>rw [qK hc hg];exact ⟨h1,h2⟩
   | true=>
    rw [oN hc hg]
    refine ⟨fun k x h=> ?_,ub (Q:=fun x=>∃v,x= .val v) ⟨_,rfl⟩ h2⟩
    simp only at h
    cases hk:an (c6 c.1) k with
    | true=>rw [hk,cond_true] at h;injection h with h;exact ⟨_,h.symm⟩
    | false=>rw [hk,cond_false] at h;exact h1 k x h
theorem qM (cs:List Ch) (j:Nat) (f g:Nat→Option Nat):VO.ren f g (.map kP (aM cs j).1 (aM cs j).2.1 (aM cs j).2.2)= .map kP (aM cs j).1 (aM cs j).2.1 (aM cs j).2.2:=by
 obtain ⟨v1,v2⟩:=qL (cs:=cs) j
 have h1:(fun k=>((aM cs j).1 k).map (TV.ren f g))=(aM cs j).1:=by
  funext k
  cases hk:(aM cs j).1 k with
  | none=>rfl
  | some x=>obtain ⟨v,rfl⟩:=v1 k x hk;rfl
 have h2:(aM cs j).2.1.map (fun e=>(e.1,e.2.1.ren f g,e.2.2))=(aM cs j).2.1:=by
  conv=>rhs;rw [←List.map_id (aM cs j).2.1]
  refine List.map_congr_left fun e he=> ?_
  obtain ⟨v,h2⟩:=v2 e he
  rw [h2];simp only [TV.ren];rw [←h2];rfl
 simp only [VO.ren,h1,h2]
theorem vX (cs:List Ch) (j:Nat) (o:List VO):VT.keep ⟨.map kP (aM cs j).1 (aM cs j).2.1 (aM cs j).2.2::o, []⟩ 1 0=t7 cs j:=by
 have e:=qM cs j (aw 1) (aw 0)
 simp only [VT.keep,List.take_succ_cons,List.take_zero,List.map_cons,List.map_nil,e,t7,rG]
theorem vY (cs:List Ch) (j n:Nat) (o:List VO):VT.keep ⟨.map kP (aM cs j).1 (aM cs j).2.1 (aM cs j).2.2::o, [(n,8,true)]⟩ 1 1=jm (aM cs j).1 (aM cs j).2.1 (aM cs j).2.2 n:=by
 have e:=qM cs j (aw 1) (aw 1)
 simp only [VT.keep,List.take_succ_cons,List.take_zero,List.map_cons,List.map_nil,e,jm]
theorem CH (ok:Bool):aY Try.prog ae (ax [(zG,CG ok)]):=aA fun p hp=>by obtain rfl:=List.mem_singleton.1 hp;exact FS ok
theorem DX {cs:List Ch} (hl:cs.length≤1000000) (hp:∀c∈cs,c.2.1.p.length≤9223372036854775807) (m:Nat) (K:KX) (hK:K .normal (ak 54 pO (jK (cs.map (aE m)) (.arg m) ((cs.map (aE m)).length:Nat))) (t7 cs cs.length) []):
    VWx Try.prog ae none 0 (am Try.prog dF 0) (ak 54 pO (jK (cs.map (aE m)) (.arg m) 0)) (rG (fun _=>none) [] 0) [] K:=by
  have hlen:(cs.map (aE m)).length=cs.length:=List.length_map _
  refine cH (f:=dF) (id:=0) (by kernel_rfl) 54 pO (fun j:Nat=>cs.length-j) (fun j:Nat=>jK (cs.map (aE m)) (.arg m) (j:Int)) (fun j=>t7 cs j) (fun j=>j≤cs.length) 1 0 (fun j _=>⟨Nat.le_refl _,Nat.le_refl _⟩)
    (fun e vs T=>e= .normal∧vs=jK (cs.map (aE m)) (.arg m) ((cs.map (aE m)).length:Nat)∧T=t7 cs cs.length) (fun j hj=> ?_) 0 (Nat.zero_le _) K ?_
  rotate_left
  · rintro e vs T ⟨rfl,rfl,rfl⟩
    exact hK
  by_cases hlt:j<cs.length
  · have hr:=List.getElem?_eq_getElem hlt
    have hm:cs[j]∈cs:=List.getElem_mem hlt
    generalize cs[j]=c at hr hm
    refine bh ac aa (CH (cV c)) ag (zJ (cs.map (aE m)) (.arg m) (aM cs j).1 (aM cs j).2.1 (aM cs j).2.2 c.1.1 c.1.2 m c.2.1 c.2.2 (cV c) j _) ?_
    refine be (decide_eq_true (by rw [hlen];omega)) ⟨nW.ix rfl (by simp [hr];rfl),⟨c.1,c.2.1,c.2.2,m,rfl,hp c hm,rfl⟩, ?_⟩
    rw [eC (by omega)]
    have hv:av (aw 1) (aw 0) (jK (cs.map (aE m)) (.arg m) ((j+1:Nat):Int))=jK (cs.map (aE m)) (.arg m) ((j+1:Nat):Int):=by
      simp only [jK,av,TV.ren,lE,Tok.ren];rfl
    refine bp (fun hg=> ?_) (fun hg=> ?_)
    · refine ⟨rfl,rfl,j+1,hlt,by show cs.length-(j+1)<cs.length-j;omega, .inr ⟨?_,hv⟩⟩
      have k:=fun o=>vX cs (j+1) o
      rw [oN hr hg] at k
      exact k _
    · refine ⟨rfl,rfl,j+1,hlt,by show cs.length-(j+1)<cs.length-j;omega, .inr ⟨?_,hv⟩⟩
      have k:=fun o=>vX cs (j+1) o
      rw [qK hr hg] at k
      exact k _
  · obtain rfl:j=cs.length:=by omega
    refine bh ac aa (CH true) ag (zJ (cs.map (aE m)) (.arg m) (aM cs cs.length).1 (aM cs cs.length).2.1 (aM cs cs.length).2.2 0 0 m bS true true cs.length _) (aI (decide_eq_false (by rw [hlen];omega)) ?_)
    exact ⟨rfl,rfl,rfl,by simp only [jK,eU,hlen],rfl⟩
def aJ (cs:List Ch):Nat→List Ch
 | 0=> []
 | j+1=>match cs[j]? with
  | some c=>bif decide (eV cs cs.length c.1=some j) then aJ cs j++ [c] else aJ cs j
  | none=>aJ cs j
theorem kH {cs:List Ch} {j:Nat} {c:Ch} (h:cs[j]?=some c):aJ cs (j+1)=bif decide (eV cs cs.length c.1=some j) then aJ cs j++ [c] else aJ cs j:=by
 simp only [aJ,h]
theorem pQ {cs:List Ch}:∀j,(aJ cs j).length≤j
 | 0=>Nat.le_refl _
 | j+1=>by
  have:=pQ (cs:=cs) j
  cases hc:cs[j]? with
  | none=>simp only [aJ,hc];omega
  | some c=>
   rw [kH hc]
   cases decide (eV cs cs.length c.1=some j)
   ·simp only [cond_false];omega
   ·simp only [cond_true,List.length_append,List.length_cons,List.length_nil];omega
theorem vZ {T:VT} {lk:ij} {es:ia} {ck id:Nat} {p:Px} (hid:T.objs[id]?=some (.map kP lk es ck)) (ok:Bool):de Try.prog T 99 (.map id) (H8 p.1 p.2) ok=some (fa ok (lk (c6 p)) (.int .i64 0)):=by
 have h:∀o:Option VO,o=some (.map kP lk es ck)→(match Try.prog.underlying 99,bW (H8 p.1 p.2) with
   | some (.map kt et),some kv=>match cg Try.prog kt,Try.prog.info? et with
    | some sh,some i=>match i.zero with
     | some zz=>bif sh.fits kv then (match o with
       | some (.map sh' look _ _)=>bif fD sh sh' then some (fa ok (look kv) zz) else none
       | _=>none) else none
     | none=>none
    | _,_=>none
   | _,_=>none)=some (fa ok (lk (c6 p)) (.int .i64 0)):=by
  rintro _ rfl
  kernel_rfl
 exact h _ hid
theorem DY {cs:List Ch} (hl:cs.length≤1000000) (m:Nat) (K:KX) (hK:K .normal (ak 54 nV (eU (cs.map (aE m)) (.arg m) ((aJ cs cs.length).map (aE m)) ((cs.map (aE m)).length:Nat))) (jm (aM cs cs.length).1 (aM cs cs.length).2.1 (aM cs cs.length).2.2 ((aJ cs cs.length).map (aE m)).length) []):
    VWx Try.prog ae none 0 (am Try.prog dF 2) (ak 54 nV (eU (cs.map (aE m)) (.arg m) [] 0)) (jm (aM cs cs.length).1 (aM cs cs.length).2.1 (aM cs cs.length).2.2 0) [] K:=by
  have hlen:(cs.map (aE m)).length=cs.length:=List.length_map _
  refine cH (f:=dF) (id:=2) (by kernel_rfl) 54 nV (fun j:Nat=>cs.length-j) (fun j:Nat=>eU (cs.map (aE m)) (.arg m) ((aJ cs j).map (aE m)) (j:Int)) (fun j=>jm (aM cs cs.length).1 (aM cs cs.length).2.1 (aM cs cs.length).2.2 ((aJ cs j).map (aE m)).length) (fun j=>j≤cs.length) 1 1 (fun j _=>⟨Nat.le_refl _,Nat.le_refl _⟩)
    (fun e vs T=>e= .normal∧vs=eU (cs.map (aE m)) (.arg m) ((aJ cs cs.length).map (aE m)) ((cs.map (aE m)).length:Nat)∧T=jm (aM cs cs.length).1 (aM cs cs.length).2.1 (aM cs cs.length).2.2 ((aJ cs cs.length).map (aE m)).length) (fun j hj=> ?_) 0 (Nat.zero_le _) K ?_
  rotate_left
  · rintro e vs T ⟨rfl,rfl,rfl⟩
    exact hK
  by_cases hlt:j<cs.length
  · have hr:=List.getElem?_eq_getElem hlt
    generalize cs[j]=c at hr
    have hln:=pQ (cs:=cs) j
    have hlm:((aJ cs j).map (aE m)).length=(aJ cs j).length:=List.length_map _
    refine bh ac aa ah ag (zK (cs.map (aE m)) ((aJ cs j).map (aE m)) ((aJ cs j).map (aE m)++ [aE m c]) (.arg m) (aM cs cs.length).1 (aM cs cs.length).2.1 (aM cs cs.length).2.2 c.1.1 c.1.2 (((eV cs cs.length c.1).getD 0:Nat):Int) m (((aJ cs j).map (aE m)).length+1) c.2.1 c.2.2 (eV cs cs.length c.1).isSome j [(((aJ cs j).map (aE m)).length+1,8,true)] _) ?_
    refine be (decide_eq_true (by rw [hlen];omega)) ⟨nW.ix rfl (by simp [hr];rfl), ?_⟩
    have hv:∀l:List Ch,av (aw 1) (aw 1) (eU (cs.map (aE m)) (.arg m) (l.map (aE m)) ((j+1:Nat):Int))=eU (cs.map (aE m)) (.arg m) (l.map (aE m)) ((j+1:Nat):Int):=fun l=>by
      simp only [eU,av,TV.ren,lE,Tok.ren];rfl
    have hend:∀o,decide (eV cs cs.length c.1=some j)=false→pC 54 2 (fun j:Nat=>cs.length-j) (fun j:Nat=>eU (cs.map (aE m)) (.arg m) ((aJ cs j).map (aE m)) (j:Int)) (fun j=>jm (aM cs cs.length).1 (aM cs cs.length).2.1 (aM cs cs.length).2.2 ((aJ cs j).map (aE m)).length) (fun j=>j≤cs.length) 1 1 j
        (fun e vs T=>e= .normal∧vs=eU (cs.map (aE m)) (.arg m) ((aJ cs cs.length).map (aE m)) ((cs.map (aE m)).length:Nat)∧T=jm (aM cs cs.length).1 (aM cs cs.length).2.1 (aM cs cs.length).2.2 ((aJ cs cs.length).map (aE m)).length)
        .normal (eU (cs.map (aE m)) (.arg m) ((aJ cs j).map (aE m)) (IntKind.wrap IntKind.i64 ((j:Int)+1))) ⟨.map kP (aM cs cs.length).1 (aM cs cs.length).2.1 (aM cs cs.length).2.2::o, [(((aJ cs j).map (aE m)).length,8,true)]⟩ [] 54:=fun o hd=>by
      rw [eC (by omega)]
      have e:aJ cs (j+1)=aJ cs j:=by rw [kH hr,hd];rfl
      refine ⟨rfl,rfl,j+1,hlt,by show cs.length-(j+1)<cs.length-j;omega, .inr ⟨?_, ?_⟩⟩
      · show _=jm _ _ _ ((aJ cs (j+1)).map (aE m)).length
        rw [e];exact vY cs _ _ o
      · show _=eU _ _ ((aJ cs (j+1)).map (aE m)) _
        rw [e];exact hv _
    cases hq:eV cs cs.length c.1 with
    | none=>
      refine ⟨pN ((vZ (T:=⟨[_,_],_⟩) (id:=0) (p:=c.1) rfl true).trans (by rw [mW,hq];rfl)), ?_⟩
      exact hend [_] (by rw [hq];rfl)
    | some i=>
      refine ⟨pN ((vZ (T:=⟨[_,_],_⟩) (id:=0) (p:=c.1) rfl true).trans (by rw [mW,hq];rfl)), ?_⟩
      refine be rfl ?_
      rw [rq]
      refine bp (fun hd=> ?_) (fun hd=> ?_)
      · have hij:i=j:=by have:=of_decide_eq_true hd;simp only [Option.getD_some] at this;omega
        subst hij
        refine ⟨?_, ?_⟩
        · have h:=nW.app (G:=ae) (T:=⟨[.map kP (aM cs cs.length).1 (aM cs cs.length).2.1 (aM cs cs.length).2.2, .cells (aE m c)], [(((aJ cs i).map (aE m)).length,8,true)]⟩) (k:=0) (bn:=true) (es:=(aJ cs i).map (aE m)) (es2:= [aE m c]) (tok:= .full) (s:=46) (x:=48) rfl rfl (by simp only [List.length_map,List.length_cons,List.length_nil];omega)
          exact h
        · rw [eC (by omega)]
          have e:aJ cs (i+1)=aJ cs i++ [c]:=by rw [kH hr,hq];simp
          have e2:(aJ cs (i+1)).map (aE m)=(aJ cs i).map (aE m)++ [aE m c]:=by rw [e,List.map_append];rfl
          have e3:((aJ cs (i+1)).map (aE m)).length=((aJ cs i).map (aE m)).length+1:=by rw [e2];simp
          refine ⟨rfl,rfl,i+1,hlt,by show cs.length-(i+1)<cs.length-i;omega, .inr ⟨?_, ?_⟩⟩
          · show _=jm _ _ _ ((aJ cs (i+1)).map (aE m)).length
            rw [e3];exact vY cs _ _ _
          · have:=hv (aJ cs (i+1))
            unfold eU at this
            rw [e3,e2] at this
            show _=eU _ _ ((aJ cs (i+1)).map (aE m)) _
            unfold eU
            rw [e3,e2];exact this
      · refine hend [_] ?_
        rw [hq]
        refine decide_eq_false fun e=> ?_
        have:=of_decide_eq_false hd
        injection e with e
        simp only [Option.getD_some] at this
        omega
  · obtain rfl:j=cs.length:=by omega
    refine bh ac aa ah ag (zK (cs.map (aE m)) ((aJ cs cs.length).map (aE m)) [] (.arg m) (aM cs cs.length).1 (aM cs cs.length).2.1 (aM cs cs.length).2.2 0 0 0 m 0 bS true true cs.length [] _) (aI (decide_eq_false (by rw [hlen];omega)) ?_)
    exact ⟨rfl,rfl,rfl,by simp only [jK,eU,hlen],rfl⟩
end
section
open Go.RowKit Go.Shelf
set_option maxRecDepth 100000

def dN (cs:List Ch):List Px:=(aJ cs cs.length).map (·.1)
def eD (cs:List Ch) (p:Px):Option (AtV × Bool):=((eV cs cs.length p).bind fun i=>cs[i]?).map (·.2)
def lF (cs:List Ch) (p:Px):AtV × Bool:=(eD cs p).getD (bS,false)
def ba (cs:List Ch):List Ch:=(ea (dN cs)).map fun p=>(p,lF cs p)
theorem jn {cs:List Ch} {c:Ch}:∀{j},c∈aJ cs j ↔ ∃i,i<j∧cs[i]?=some c∧eV cs cs.length c.1=some i
 | 0=>⟨fun h=>(by cases h),fun ⟨i,h,_⟩=>absurd h (Nat.not_lt_zero i)⟩
 | j+1=>by
  have ih:=jn (cs:=cs) (c:=c) (j:=j)
  cases hc:cs[j]? with
  | none=>
   simp only [aJ,hc]
   rw [ih]
   constructor
   ·rintro ⟨i,h1,h2⟩;exact ⟨i,by omega,h2⟩
   ·rintro ⟨i,h1,h2⟩
    refine ⟨i,Classical.byContradiction fun hn=> ?_,h2⟩
    obtain rfl:i=j:=by omega
    rw [hc] at h2;cases h2.1
  | some d=>
   rw [kH hc]
   cases hd:decide (eV cs cs.length d.1=some j) with
   | true=>
    rw [cond_true,List.mem_append,List.mem_singleton,ih]
    constructor
    ·rintro (⟨i,h1,h2⟩ | rfl)
     ·exact ⟨i,by omega,h2⟩
     ·exact ⟨j,by omega,hc,of_decide_eq_true hd⟩
    ·rintro ⟨i,h1,h2,h3⟩
     by_cases hij:i=j
     ·subst hij
      rw [hc] at h2;injection h2 with h2
      exact .inr h2.symm
     ·exact .inl ⟨i,by omega,h2,h3⟩
   | false=>
    rw [cond_false,ih]
    constructor
    ·rintro ⟨i,h1,h2⟩;exact ⟨i,by omega,h2⟩
    ·rintro ⟨i,h1,h2,h3⟩
     refine ⟨i,Classical.byContradiction fun hn=> ?_,h2,h3⟩
     obtain rfl:i=j:=by omega
     rw [hc] at h2;injection h2 with h2
     subst h2
     exact of_decide_eq_false hd h3
theorem uc {cs:List Ch}:∀j,((aJ cs j).map (·.1)).Nodup
 | 0=>List.nodup_nil
 | j+1=>by
  have ih:=uc (cs:=cs) j
  cases hc:cs[j]? with
  | none=>simp only [aJ,hc];exact ih
  | some d=>
   rw [kH hc]
   cases hd:decide (eV cs cs.length d.1=some j) with
   | false=>exact ih
   | true=>
    rw [cond_true,List.map_append]
    refine List.nodup_append.2 ⟨ih,by simp,fun a ha b hb e=> ?_⟩
    simp only [List.map_cons,List.map_nil,List.mem_singleton] at hb
    subst hb
    obtain ⟨c,hc2,rfl⟩:=List.mem_map.1 ha
    obtain ⟨i,h1,h2,h3⟩:=jn.1 hc2
    rw [e,of_decide_eq_true hd] at h3
    injection h3 with h3
    omega
theorem iv (cs:List Ch):(dN cs).Nodup:=uc _
theorem nx {cs:List Ch} {c:Ch} (h:c∈aJ cs cs.length):eD cs c.1=some c.2:=by
 obtain ⟨i,h1,h2,h3⟩:=jn.1 h
 unfold eD
 rw [h3,Option.bind_some,h2];rfl
theorem v6 {cs:List Ch} {p:Px} {v:AtV × Bool} (h:eD cs p=some v):(p,v)∈aJ cs cs.length:=by
 unfold eD at h
 cases hq:eV cs cs.length p with
 | none=>rw [hq] at h;cases h
 | some i=>
  rw [hq,Option.bind_some] at h
  obtain ⟨h1,c,h2,h3,h4⟩:=pP hq
  rw [h2] at h
  injection h with h
  subst h h4
  exact jn.2 ⟨i,h1,h2,hq⟩
theorem Hu (cs:List Ch):aJ cs cs.length=(dN cs).map fun p=>(p,lF cs p):=by
 unfold dN
 rw [List.map_map]
 conv=>lhs;rw [←List.map_id (aJ cs cs.length)]
 refine List.map_congr_left fun c hc=> ?_
 simp only [id_eq,Function.comp_apply,lF,nx hc,Option.getD_some]
theorem Hv (m:Nat) (cs:List Ch):(aJ cs cs.length).map (aE m)=(dN cs).map (gi m (lF cs)):=by
 conv=>lhs;rw [Hu]
 rw [List.map_map];rfl
theorem DZ (m:Nat) (cs:List Ch):(ba cs).map (aE m)=(ea (dN cs)).map (gi m (lF cs)):=by
 unfold ba
 rw [List.map_map];rfl
theorem BY (m:Nat) (c:Ch):∀x∈aE m c,FreeM m x:=by
 intro x hx
 simp only [aE,rE,List.mem_cons,List.not_mem_nil,or_false] at hx
 rcases hx with rfl | rfl | rfl | rfl | rfl | rfl | rfl | rfl
 rotate_left 3
 ·refine FreeM.arg fun c hc=> ?_
  obtain ⟨l,hl,hc⟩:=List.mem_flatten.1 hc
  obtain ⟨z,_,rfl⟩:=List.mem_map.1 hl
  rw [List.mem_singleton.1 hc]
  exact .val _
 all_goals exact (FreeT.val _).toM
theorem D0 {T:VT} {tok:Tok}:VCx Try.prog ae 0 t6 [.vec 8 [] tok, .fn (.func 57) [] []] T fun x T' =>x= .val (.tuple #[])∧T' =T:=by
 intro g w us r hG hx
 match us,hx.1 with
 | [u,f],_=>
  obtain ⟨us,vs,rfl,h3,h4⟩:=(hx.2 1 _ f rfl rfl).fn_inv
  have e3:us= []:=List.eq_nil_of_length_eq_zero h3.1
  have e4:vs= []:=List.eq_nil_of_length_eq_zero h4.1
  subst e3 e4
  have key:∀a c,u= .slice a 0 c→Calls Try.prog t6 #[u, .func (.func 57) #[] #[]] w fun e w' =>∃v x g' T',e= .returned v∧(x= .val (.tuple #[])∧T' =T)∧Evo g w g' w' ∧RW g' T' w' ∧VR g' w' x v∧Fix 0 g T w T' w' :=fun a c he=>by
   subst he
   refine (AnyF.slices_SortFunc_none Try.sortCh a c _ w).mono fun e w' ⟨he,hw⟩=> ?_
   subst hw
   exact ⟨.tuple #[],_,g,_,he,⟨rfl,rfl⟩,Evo.refl _ _,r, .val _,⟨Nat.le_refl _,fun i hi=>absurd hi (Nat.not_lt_zero i),fun i o b hi=>absurd hi (Nat.not_lt_zero i)⟩⟩
  rcases (hx.2 0 _ u rfl rfl).vec_inv with ⟨rfl,_⟩ | ⟨b,o,c,us,rfl,h⟩ | ⟨a,rfl,_⟩
  ·exact key none 0 rfl
  ·exact key _ _ rfl
  ·exact key _ _ rfl
theorem D3:∀ro ys T K,FP ro ys T K→VCx Try.prog ae ro t6 ys T K:=by
 rintro ro ys T K ⟨⟨rfl,rfl⟩,hk⟩
 exact D0.mono fun x T' ⟨h1,h2⟩=>by subst h1 h2;exact hk
section
variable {lk:ij} {es:ia} {ck:Nat}
theorem FT {cs:List Ch} (hl:cs.length≤1000000) (m:Nat) (hr:∀f g,VO.ren f g (.map kP lk es ck)= .map kP lk es ck):∀ro ys T K,H9 (j4 lk es ck ((aJ cs cs.length).map (aE m)).length ((aJ cs cs.length).map (aE m)).flatten) (j4 lk es ck ((aJ cs cs.length).map (aE m)).length ((ba cs).map (aE m)).flatten) ((aJ cs cs.length).map (aE m)).length ro ys T K→VCx Try.prog ae ro t6 ys T K:=by
 rintro ro ys T K ⟨⟨rfl,rfl,rfl⟩,hk⟩
 have hkl:(dN cs).length≤1000000:=by
  have:=pQ (cs:=cs) cs.length
  unfold dN;rw [List.length_map];omega
 have hs:=zH (G:=ae) m (lF cs) (dN cs) (iv cs) (by omega)
 rw [←Hv,←DZ,show (dN cs).length=((aJ cs cs.length).map (aE m)).length by simp [dN]] at hs
 have hfl:∀(l:List Ch) f g,av f g ((l.map (aE m)).flatten)=(l.map (aE m)).flatten:=fun l f g=>by
  have:=lE m f g l
  rw [bO] at this
  rw [dW,List.map_flatten,this]
 refine (VCx.lift (xs:= [.row 8 0 0 ((aJ cs cs.length).map (aE m)).length, .fn (.func 57) [] []]) [1] [] ap (by simp) List.nodup_nil (fun k hk=> ?_) (by simp) (fun _ _=>Nat.zero_le _) rfl (T:=j4 lk es ck ((aJ cs cs.length).map (aE m)).length ((aJ cs cs.length).map (aE m)).flatten) (Q:=fun x T' =>x= .val (.tuple #[])∧T' =⟨[.row ((ba cs).map (aE m)).flatten], []⟩) ?_ ?_).mono ?_
 ·rw [List.mem_singleton.1 hk];exact ⟨_,rfl,rfl⟩
 ·have e:VT.give (j4 lk es ck ((aJ cs cs.length).map (aE m)).length ((aJ cs cs.length).map (aE m)).flatten) [1] []=⟨[.row ((aJ cs cs.length).map (aE m)).flatten], []⟩:=by
   simp only [VT.give,j4,List.map_cons,List.map_nil,List.getElem?_cons_zero,List.getElem?_cons_succ,Option.getD_some,VO.ren,hfl]
  rw [e];exact hs
 ·rintro x T' ⟨_,rfl⟩;exact ⟨Nat.le_refl _,Nat.zero_le _⟩
 ·rintro x T'' ⟨y,T',⟨rfl,rfl⟩,rfl,rfl⟩
  have e:VT.back (j4 lk es ck ((aJ cs cs.length).map (aE m)).length ((aJ cs cs.length).map (aE m)).flatten) [1] [] ⟨[.row ((ba cs).map (aE m)).flatten], []⟩=j4 lk es ck ((aJ cs cs.length).map (aE m)).length ((ba cs).map (aE m)).flatten:=by
   simp only [VT.back,j4,List.length_cons,List.length_nil,List.map_cons,List.map_nil,VO.ren,hfl,bP,List.append_nil]
   rfl
  rw [e];exact hk
end
theorem oO (cs:List Ch):(ba cs).length=(aJ cs cs.length).length:=by
 unfold ba dN;rw [List.length_map,zF,List.length_map]
theorem FU {L:Bs} {m j:Nat} {σ:List TV} {T:VT} (h:pick nV (cf [(6,8)] σ T).1=eU L (.arg m) [] (j:Int)):σ[26]?=some (.vec 8 L (.arg m)):=by
 have h1:=congrArg (fun l:List TV=>l.getD 2 .dead) h
 simp only [pick,nV,eU,cf,List.map_cons,List.getD_cons_succ,List.getD_cons_zero] at h1
 rw [List.getD_eq_getElem?_getD,List.getElem?_set_ne (by omega)] at h1
 cases hs:σ[26]? with
 | none=>rw [hs] at h1;cases h1
 | some x=>rw [hs] at h1;rw [←h1];rfl
theorem D4 {cs:List Ch} (hl:cs.length≤1000000) (hp:∀c∈cs,c.2.1.p.length≤9223372036854775807) (m:Nat):VCx Try.prog ae 0 dF [.vec 8 (cs.map (aE m)) (.arg m)] ⟨[], []⟩ fun x T' =>x= .vec 8 ((ba cs).map (aE m)) .none∧T' =⟨[], []⟩:=by
  have hoa:=fun K hK=>DX hl hp m K hK
  have hob:=fun K hK=>DY hl m K hK
  by_cases hA:aJ cs cs.length= []
  · have hB:ba cs= []:=List.eq_nil_of_length_eq_zero (by rw [oO,hA];rfl)
    rw [hA] at hob
    refine VCx.keepQ 0 0 (Nat.le_refl _) (Nat.le_refl _) (ai ac aa (aA fun p hp=> ?_) (bf fun p hp=> ?_) (FQ (cs.map (aE m)) (.arg m) (aM cs cs.length).1 (aM cs cs.length).2.1 (aM cs cs.length).2.2 _) ⟨rfl,⟨rfl,rfl,rfl,trivial,rfl,rfl,rfl⟩,rfl,⟨rfl,rfl,rfl,⟨rfl,trivial⟩,rfl,rfl,rfl⟩,⟨rfl,rfl⟩,by rw [hB];rfl,rfl⟩)
    · obtain rfl:=List.mem_singleton.1 hp;exact D3
    · rcases List.mem_cons.1 hp with rfl | hp
      · exact bq hoa
      · obtain rfl:=List.mem_singleton.1 hp
        exact bq hob
  · have hpos:0<((aJ cs cs.length).map (aE m)).length:=by rw [List.length_map];exact List.length_pos_iff.2 hA
    have hcs:cs.map (aE m)≠ []:=fun e=>by
      have h0:cs= []:=by simpa using e
      subst h0
      exact hA rfl
    have h1:VCx Try.prog ae 0 dF [.vec 8 (cs.map (aE m)) (.arg m)] ⟨[], []⟩ fun x T' =>x= .vec 8 ((ba cs).map (aE m)) .none∧True:=by
      refine VCx.freeze (Q:=fun _=>True) (ai ac aa (aA fun p hp=> ?_) (bf fun p hp=> ?_) (FR (cs.map (aE m)) ((aJ cs cs.length).map (aE m)) ((ba cs).map (aE m)) (.arg m) (aM cs cs.length).1 (aM cs cs.length).2.1 (aM cs cs.length).2.2 _) ⟨rfl,⟨rfl,rfl,rfl,trivial,rfl,rfl,rfl⟩,rfl,⟨rfl,rfl,rfl,⟨rfl,trivial⟩,rfl,rfl,rfl,rfl⟩,⟨rfl,rfl,rfl⟩,1,0,_,rfl, ?_,trivial⟩)
      · obtain rfl:=List.mem_singleton.1 hp;exact FT hl m fun f g=>qM cs cs.length f g
      · rcases List.mem_cons.1 hp with rfl | hp
        · exact bq hoa
        · obtain rfl:=List.mem_singleton.1 hp
          refine uZ (m:=m) (vs1:=eU (cs.map (aE m)) (.arg m) ((aJ cs cs.length).map (aE m)) ((cs.map (aE m)).length:Nat)) rfl rfl hpos (fun g w σ us T hσ hpk=> ?_) (fun x hx=> ?_) (fun o ho=> ?_) hob
          · obtain ⟨u,_,hu⟩:=hσ.at (FU (j:=0) hpk)
            generalize hL:cs.map (aE m)=L at hu hcs
            cases hu with
            | nil=>exact absurd rfl hcs
            | odd=>exact absurd rfl hcs
            | vec hn hc hz ht _ _ _ _ _=>
              rcases ht with h0 | h0
              · exact absurd (List.eq_nil_of_length_eq_zero h0) hcs
              · exact h0.2
          · obtain ⟨l,hl,hx⟩:=List.mem_flatten.1 hx
            obtain ⟨c,_,rfl⟩:=List.mem_map.1 hl
            exact BY m c x hx
          · rw [List.mem_singleton.1 ho]
            intro e he
            obtain ⟨v,hv⟩:=(qL (cs:=cs) cs.length).2 e he
            rw [hv];exact .val v
      · rw [show ((aJ cs cs.length).map (aE m)).length=((ba cs).map (aE m)).length by rw [List.length_map,List.length_map,oO]]
        exact gf rfl fun e he=>by obtain ⟨c,_,rfl⟩:=List.mem_map.1 he;rfl
    refine VCx.keepQ 0 0 (Nat.le_refl _) (Nat.le_refl _) (h1.mono fun x T' ⟨hx,_⟩=> ?_)
    subst hx
    exact ⟨by simp only [TV.ren,lE,Tok.ren],rfl⟩
def aj (c:Ch):List TV:=fA c.1.1 c.1.2 c.2.1 c.2.2
theorem kI (c:Ch) (f g:Nat→Option Nat):av f g (aj c)=aj c:=by
 simp only [aj,fA,AtV.cells,List.cons_append,List.nil_append,av,TV.ren,dL,Tok.ren]
theorem bc (f g:Nat→Option Nat) (cs:List Ch):bu f g (cs.map aj)=cs.map aj:=e6 aj (fun a=>kI a f g) cs
theorem D5 (m:Nat) (cs:List Ch) (tok:Tok):lD m [.vec 8 (cs.map aj) tok]= [.vec 8 (cs.map (aE m)) (.arg m)]:=by
 have h1:∀p:List Int,gX m (iV p)=iV p:=fun p=>by
  rw [fT,iV,List.map_map]
  exact List.map_congr_left fun z _=>rfl
 simp only [lD,oL]
 rw [fT,List.map_map]
 congr 2
 refine List.map_congr_left fun c _=> ?_
 simp only [Function.comp_apply,aj,fA,AtV.cells,List.cons_append,List.nil_append,List.map_cons,List.map_nil,oL,h1]
 rfl
theorem TVle.vecMap {α:Type} {size:Nat} {f g:α→List TV} (h:∀a,TVleL (f a) (g a)) (l:List α):TVle (.vec size (l.map f) .none) (.vec size (l.map g) .none):=by
  have hf:TVleL (l.map f).flatten (l.map g).flatten:=by
    induction l with
    | nil=>trivial
    | cons a l ih=>
      have:∀{x y u v:List TV},TVleL x y→TVleL u v→TVleL (x++u) (y++v):=by
        intro x
        induction x with
        | nil=>
          intro y u v h1 h2
          cases y with
          | nil=>exact h2
          | cons=>exact h1.elim
        | cons a x ih=>
          intro y u v h1 h2
          cases y with
          | nil=>exact h1.elim
          | cons b y=>exact ⟨h1.1,ih h1.2 h2⟩
      exact this (h a) ih
  intro gh w u hu
  rcases hu.vec_inv with ⟨rfl,he,_⟩ | ⟨b,o,c,us,rfl,f1,f2,f3,f4,f5,f6,f7,f8⟩ | ⟨a,rfl,he,_⟩
  · have:l= []:=by simpa using he
    subst this;exact .nil trivial
  · have hl:=hf.at.1
    refine .mk_vec (by simp) (by simpa using f1) f2 (fun e he=> ?_) trivial (hf.vrs f5) (fun j hj=>f6 j (by omega)) f7 f8
    obtain ⟨a,ha,rfl⟩:=List.mem_map.1 he
    rw [←(h a).at.1]
    exact f3 _ (List.mem_map_of_mem ha)
  · have:l= []:=by simpa using he
    subst this;exact .odd a trivial
theorem FV {cs:List Ch} (hl:cs.length≤1000000) (hp:∀c∈cs,c.2.1.p.length≤9223372036854775807) (tok:Tok):VCx Try.prog ae 0 dF [.vec 8 (cs.map aj) tok] ⟨[], []⟩ fun x T' =>x= .vec 8 ((ba cs).map aj) .none∧T' =⟨[], []⟩:=by
 refine VCx.toArg fun m=> ?_
 rw [D5]
 exact VCx.toLe ((D4 hl hp m).mono fun x T' ⟨h1,h2⟩=>⟨by rw [h1];exact TVle.vecMap (f:=aE m) (g:=aj) (fun c:Ch=>zL c.1 m c.2.1 c.2.2) _,h2⟩)
end
section
open Go.RowKit

def bJ:List Ch→UpV
 | []=>⟨[],bS, []⟩
 | c::l=>bif c.2.2 then ⟨(c::l).map (·.1),bS, []⟩ else ⟨[],c.2.1,(c::l).map (·.1)⟩
def gj (u:UpV):Int:=bif fS u then ((nU u).length:Int) else 0
def bL (l:List Ch):Bool:=decide (gj (bJ l)≤4077)
def jp (may:List Ch→Bool) (l:List Ch):Nat→Nat→Nat
 | 0,n=>n
 | f+1,n=>bif decide (n<l.length)&&may (l.take (n+1)) then jp may l f (n+1) else n
def b7 (may:List Ch→Bool) (l:List Ch):Nat:=jp may l l.length 1
def dk (may:List Ch→Bool):Nat→List Ch→List (List Ch)
 | 0,_=> []
 | f+1,l=>bif l.isEmpty then [] else l.take (b7 may l)::dk may f (l.drop (b7 may l))
def aC (l:List Ch):List (List Ch):=dk bL l.length l
def bA (l:List Ch):List UpV:=(aC l).map bJ
def jL:Nat→List Ch→List UpV
 | 0,_=> []
 | _+1, []=> []
 | f+1,c::l=>bA ((c::l).filter fun x=>decide (x.2.1=c.2.1))++jL f ((c::l).filter fun x=> !decide (x.2.1=c.2.1))
def cC (cs:List Ch):List UpV:=bA ((ba cs).filter fun c=>c.2.2)++jL (ba cs).length ((ba cs).filter fun c=> !c.2.2)
def bU (us:List UpV):List Ch:=us.flatMap fun u=>u.w.map (fun p=>(p,bS,true))++u.n.map fun p=>(p,u.a,false)
def jq (c:Int):List Ch→Int
 | []=>c
 | x::l=>jq (IntKind.wrap .i64 (c+(x.2.1.p.length:Int))) l
def eW (c:Int):List Ch→Bool
 | []=>true
 | x::l=>bif decide (IntKind.wrap .i64 (c+(x.2.1.p.length:Int))>3000) then false else eW (IntKind.wrap .i64 (c+(x.2.1.p.length:Int))) l
def kJ (cs:List Ch):Bool:=bif decide ((cs.length:Int)>60) then false else eW 0 cs
structure CsOk (cs:List Ch):Prop where
 few:cs.length≤50000
 at' :∀c∈cs,c.2.1.p.length≤9223372036854775807∧0≤c.2.1.h∧c.2.1.h<4294967296
def BZ (L P:Bs):Prop:=∃cs:List Ch,L=cs.map aj∧cs.length≤1000000∧P=au (cs.map (·.1))
def B1 (L w:Bs) (x:AtV) (n:Bs):Prop:=∃cs:List Ch,L=cs.map aj∧cs≠ []∧cs.length≤1000000∧w=au (bJ cs).w∧x=(bJ cs).a∧n=au (bJ cs).n
def FW (L:Bs) (b:Bool):Prop:=∃cs:List Ch,L=cs.map aj∧cs≠ []∧CsOk cs∧b=bL cs
def FX (L C:Bs):Prop:=∃cs:List Ch,L=cs.map aj∧CsOk cs∧C=(aC cs).map fun l=> [.vec 8 (l.map aj) .none]
def FY (L A B:Bs):Prop:=∃cs:List Ch,L=cs.map aj∧cs.length≤1000000∧A=(cs.filter fun c=>c.2.2).map aj∧B=(cs.filter fun c=> !c.2.2).map aj
def FZ (y:AtV) (L A B:Bs):Prop:=∃cs:List Ch,L=cs.map aj∧CsOk cs∧y.p.length≤9223372036854775807∧A=(cs.filter fun c=>decide (c.2.1=y)).map aj∧B=(cs.filter fun c=> !decide (c.2.1=y)).map aj
def xG (L U:Bs):Prop:=∃cs:List Ch,L=cs.map aj∧CsOk cs∧U=(bA cs).map UpV.cells
def ue (L:Bs):Prop:=∃cs:List Ch,L=cs.map aj∧CsOk cs
def xH (L U:Bs):Prop:=∃cs:List Ch,(∀tok,TVle (.vec 8 L tok) (.vec 8 (cs.map aj) .none))∧CsOk cs∧U=(cC cs).map UpV.cells
def B3 (U L:Bs):Prop:=∃us:List UpV,U=us.map UpV.cells∧us.length≤50000∧(bU us).length≤1000000∧L=(bU us).map aj
def xI (L M:Bs) (b:Bool):Prop:=∃cs ds:List Ch,L=cs.map aj∧M=ds.map aj∧CsOk cs∧CsOk ds∧b=decide (cs=ds)
def B4 (L:Bs) (b:Bool):Prop:=∃cs:List Ch,L=cs.map aj∧b=kJ cs
def F0 (l:List TV) (b:Bool):Prop:=∃c:Ch,l=aj c∧b=c.2.2
def F1 (y l:List TV) (b:Bool):Prop:=∃(a:AtV) (c:Ch),y=a.cells∧l=aj c∧a.p.length≤9223372036854775807∧c.2.1.p.length≤9223372036854775807∧b=decide (c.2.1=a)
def B5 (l:List TV) (b:Bool):Prop:=∃u:UpV,l=u.cells∧fj u∧b=fS u
def F2 (l:List TV) (b:Bs):Prop:=∃u:UpV,l=u.cells∧fj u∧fS u=true∧b=nU u
def B6 (l:List TV) (z:Int):Prop:=∃u:UpV,l=u.cells∧fj u∧z=gj u
def F3 (l:List TV) (b:Bool):Prop:=∃u:UpV,l=u.cells∧fj u∧b=(u.w.isEmpty&&u.n.isEmpty)
def F4 (l m:List TV) (b:Bool):Prop:=∃c d:Ch,l=aj c∧m=aj d∧c.2.1.p.length≤9223372036854775807∧d.2.1.p.length≤9223372036854775807∧b=decide (c=d)
end
section
open Go.RowKit

abbrev kK:=24
abbrev dO:=31
abbrev v7:=30
abbrev jM:=61
abbrev gt:=87
abbrev nX:=86
abbrev uf:=85
abbrev ug:=88
abbrev fB:=59
abbrev ui:=60
abbrev uj:=62
abbrev v8:=29
abbrev zM:=28
abbrev CI:=27
abbrev Ia:=66
abbrev ik:=26
abbrev wb:=25
abbrev lX:=6
abbrev jN:=67
abbrev nY:=68
def un (w:Bs) (x:AtV) (n:Bs):List TV:= [.vec 2 w .none]++x.cells++ [.vec 2 n .none]
def F5 (l' :Bs):aP:=fun _ ys T K=>match ys with
 | [.vec 8 l _]=>BZ l l' ∧K (.vec 2 l' .none) T
 | _=>ar 84 default ys
def zN (w:Bs) (x:AtV) (n:Bs):aP:=fun _ ys T K=>match ys with
 | [.vec 8 l _]=>B1 l w x n∧K (.agg (un w x n)) T
 | _=>ar 84 default ys
def jO:VO:= .cells [.fn (.func uf) [] []]
def CJ (b:Bool):aP:=fun ro ys T K=>match ys with
 | [.vec 8 l _, .ptr i 0]=>((@Eq Bool (Nat.ble ro i) true)∧(@Eq (Option VO) (T.objs[i]?) (some jO))∧FW l b)∧K (.val (.bool b)) T
 | _=>ar 84 default ys
def F6 (c:Bs):aP:=fun ro ys T K=>match ys with
 | [.vec 8 l _, .fn (.func f) [] [.ptr i 0]]=>((@Eq Nat f ug)∧(@Eq Bool (Nat.ble ro i) true)∧(@Eq (Option VO) (T.objs[i]?) (some jO))∧FX l c)∧K (.vec 1 c .none) T
 | _=>ar 84 default ys
def F7 (a b:Bs):aP:=fun _ ys T K=>match ys with
 | [.vec 8 l _, .fn (.func f) [] []]=>((@Eq Nat f ui)∧FY l a b)∧K (.tup [.vec 8 a .none, .vec 8 b .none]) T
 | _=>ar 84 default ys
def CL (y:AtV) (a b:Bs):aP:=fun ro ys T K=>match ys with
 | [.vec 8 l _, .fn (.func f) [] [.ptr i 0]]=>((@Eq Nat f uj)∧(@Eq Bool (Nat.ble ro i) true)∧(@Eq (Option VO) (T.objs[i]?) (some (.cells y.cells)))∧FZ y l a b)∧K (.tup [.vec 8 a .none, .vec 8 b .none]) T
 | _=>ar 84 default ys
def F8 (u:Bs):aP:=fun ro ys T K=>match ys with
 | [.vec 8 l _]=>((@Eq Nat ro 0)∧xG l u)∧K (.vec 7 u (.tail T.tails.length u.length)) {T with tails:=T.tails++ [(u.length,7,true)]}
 | _=>ar 84 default ys
def CM (u:Bs):aP:=fun _ ys T K=>match ys with
 | [.vec 8 l _]=>xG l u∧K (.vec 7 u .none) T
 | _=>ar 84 default ys
def wc (R:Bs→Bs):aP:=fun _ ys T K=>match ys with
 | [.vec 8 l _]=>ue l∧K (.vec 8 (R l) .none) T
 | _=>ar 84 default ys
def wd (u:Bs):aP:=fun _ ys T K=>match ys with
 | [.vec 8 l _]=>xH l u∧K (.vec 7 u .none) T
 | _=>ar 84 default ys
def zO (l' :Bs):aP:=fun _ ys T K=>match ys with
 | [.vec 7 l _]=>B3 l l' ∧K (.vec 8 l' .none) T
 | _=>ar 84 default ys
def zQ (b:Bool):aP:=fun _ ys T K=>match ys with
 | [.vec 8 l _, .vec 8 m _]=>xI l m b∧K (.val (.bool b)) T
 | _=>ar 84 default ys
def F9 (b:Bool):aP:=fun _ ys T K=>match ys with
 | [.vec 8 l _, .vec 8 m _, .fn (.func f) [] []]=>((@Eq Nat f nY)∧xI l m b)∧K (.val (.bool b)) T
 | _=>ar 84 default ys
def zS (b:Bool):aP:=fun _ ys T K=>match ys with
 | [.vec 8 l _, .val (.int .i64 60)]=>B4 l b∧K (.val (.bool b)) T
 | _=>ar 84 default ys
def zT:aP:=fun _ ys T K=>match ys with
 | []=>K (.val (.bool true)) T
 | _=>ar 84 default ys
def zU (b:Bool):aP:=fun _ ys T K=>match ys with
 | [.agg l]=>B5 l b∧K (.val (.bool b)) T
 | _=>ar 84 default ys
def CN (b:Bool):aP:=fun _ ys T K=>match ys with
 | [.agg l]=>F3 l b∧K (.val (.bool b)) T
 | _=>ar 84 default ys
def Ga (b:Bs):aP:=fun _ ys T K=>match ys with
 | [.agg l]=>F2 l b∧K (.vec 1 b .none) T
 | _=>ar 84 default ys
def zV (z:Int):aP:=fun _ ys T K=>match ys with
 | [.agg l]=>B6 l z∧K (.val (.int .i64 z)) T
 | _=>ar 84 default ys
def CO (b:Bool):aP:=fun _ ys T K=>match ys with
 | [.agg l, .agg m]=>F4 l m b∧K (.val (.bool b)) T
 | _=>ar 84 default ys
def jP:TV:= .fn (.func ui) [] []
def jQ:TV:= .fn (.func uj) [] [.ptr 0 0]
def jR:List Nat:= [1,6,7,10,11,12]
def dG (so:TV) (L:Bs) (tk:Tok) (a b:Bs) (j:Int):List TV:= [so, .vec 8 a (.tail 0 a.length), .vec 8 b (.tail 1 b.length), .vec 8 L tk, .val (.int .i64 L.length), .val (.int .i64 j)]
def fU (O:List VO) (a b:Nat):VT:=⟨O, [(a,8,true),(b,8,true)]⟩
def Ib (so:TV) (O:List VO) (L:Bs) (tk:Tok) (a b:Bs) (c:Code):Nat→Option (bD × Code):=b6 [(0,cO 30 jR [(6,8),(7,8)] (dG so L tk [] [] 0) (fU O 0 0) (fun K=>K .normal (ak 30 jR (dG so L tk a b L.length)) (fU O a.length b.length) []),c)]
def xJ (b:Bool):aP:=fun _ ys T K=>match ys with
 | [.agg l]=>F0 l b∧K (.val (.bool b)) T
 | _=>ar 84 default ys
def xK (y:List TV) (b:Bool):aP:=fun ro ys T K=>match ys with
 | [.agg l, .ptr i 0]=>((@Eq Bool (Nat.ble ro i) true)∧(@Eq (Option VO) (T.objs[i]?) (some (.cells y)))∧F1 y l b)∧K (.val (.bool b)) T
 | _=>ar 84 default ys
def uo:List Nat:= [3,6,7,8]
def nZ (L:Bs) (tk:Tok) (p:Bs) (j:Int):List TV:= [.vec 2 p (.tail 0 p.length), .vec 8 L tk, .val (.int .i64 L.length), .val (.int .i64 j)]
def rH (n:Nat):VT:=⟨[], [(n,2,true)]⟩
def Iy (L:Bs) (tk:Tok) (p:Bs) (c:Code):Nat→Option (bD × Code):=b6 [(0,cO 19 uo [(3,2)] (nZ L tk [] 0) (rH 0) (fun K=>K .normal (ak 19 uo (nZ L tk p L.length)) (rH p.length) []),c)]
def we:TV:= .fn (.func ug) [] [.ptr 0 0]
def up:List Nat:= [0,1,5]
def pR (l:Bs) (tk:Tok) (o:Bs):List TV:= [.vec 8 l tk,we, .vec 1 o (.tail 0 o.length)]
def gk (n:Nat):VT:=⟨[jO], [(n,1,true)]⟩
def Iz (L:Bs) (tk:Tok) (o:Bs) (c:Code):Nat→Option (bD × Code):=b6 [(0,cO 35 up [(5,1)] (pR L tk []) (gk 0) (fun K=>K .normal (ak 35 up (pR [] tk o)) (gk o.length) []),c)]
def n7:List Nat:= [0,1,5,6]
def mX (l:Bs) (tk:Tok) (o:Bs) (n:Int):List TV:= [.vec 8 l tk,we, .vec 1 o (.tail 0 o.length), .val (.int .i64 n)]
def IA (l:Bs) (tk:Tok) (o:Bs) (n:Nat) (c:Code):Nat→Option (bD × Code):=b6 [(2,cO 35 n7 [] (mX l tk o 1) (gk o.length) (fun K=>K .normal (ak 35 n7 (mX l tk o n)) (gk o.length) []),c)]
def rI:List Nat:= [3,4,9,10,11]
def mY (C u:Bs) (j:Int):List TV:= [.ptr 0 0, .vec 7 u (.tail 0 u.length), .vec 1 C .none, .val (.int .i64 C.length), .val (.int .i64 j)]
def pS (n:Nat):VT:=⟨[jO], [(n,7,true)]⟩
def IB (C u:Bs) (c:Code):Nat→Option (bD × Code):=b6 [(0,cO 23 rI [(4,7)] (mY C [] 0) (pS 0) (fun K=>K .normal (ak 23 rI (mY C u C.length)) (pS u.length) []),c)]
def uq:List Nat:= [4,5]
def pT (l u:Bs):List TV:= [.vec 8 l .none, .vec 7 u (.tail 0 u.length)]
def rJ (n:Nat):VT:=⟨[], [(n,7,true)]⟩
def IC (l u0 u:Bs) (c:Code):Nat→Option (bD × Code):=b6 [(0,cO 34 uq [] (pT l u0) (rJ u0.length) (fun K=>K .normal (ak 34 uq (pT [] u)) (rJ u.length) []),c)]
def pU:List Nat:= [3,10,11,12]
def lY (l U:Bs) (tk:Tok) (j:Int):List TV:= [.vec 8 l (.tail 0 l.length), .vec 7 U tk, .val (.int .i64 U.length), .val (.int .i64 j)]
def n8 (n:Nat):VT:=⟨[], [(n,8,true)]⟩
def ID (l U:Bs) (tk:Tok) (c:Code):Nat→Option (bD × Code):=b6 [(0,cO 46 pU [(3,8)] (lY [] U tk 0) (n8 0) (fun K=>K .normal (ak 46 pU (lY l U tk U.length)) (n8 l.length) []),c)]
def n9:List Nat:= [3,5,10,11,12,17,18,19]
def rK (l U:Bs) (tk:Tok) (j:Int) (w:Bs) (i:Int):List TV:= [.vec 8 l (.tail 0 l.length), .ptr 0 0, .vec 7 U tk, .val (.int .i64 U.length), .val (.int .i64 j), .vec 2 w .none, .val (.int .i64 w.length), .val (.int .i64 i)]
def oa:List Nat:= [3,5,10,11,12,30,31,32]
def eX (w:Bs) (x:AtV) (n:Bs) (k:Nat):VT:=⟨[.cells (un w x n)], [(k,8,true)]⟩
def IE (l l1 l2 U:Bs) (tk:Tok) (j:Int) (w:Bs) (x:AtV) (n:Bs) (c d:Code):Nat→Option (bD × Code):=b6 [(2,cO 46 n9 [] (rK l U tk j w 0) (eX w x n l.length) (fun K=>K .normal (ak 46 n9 (rK l1 U tk j w w.length)) (eX w x n l1.length) []),c),(4,cO 46 oa [] (rK l1 U tk j n 0) (eX w x n l1.length) (fun K=>K .normal (ak 46 oa (rK l2 U tk j n n.length)) (eX w x n l2.length) []),d)]
def pV:List Nat:= [6,1,2,15,16,17]
def lZ (L M:Bs) (t1 t2:Tok) (j:Int):List TV:= [.val (.bool false), .vec 8 M t2, .fn (.func nY) [] [], .vec 8 L t1, .val (.int .i64 L.length), .val (.int .i64 j)]
def IF (L M:Bs) (t1 t2:Tok) (b:Bool) (c:Code):Nat→Option (bD × Code):=b6 [(0,cO 32 pV [] (lZ L M t1 t2 0) ⟨[], []⟩ (fun K=>bif b then K .normal (ak 32 pV (lZ L M t1 t2 L.length)) ⟨[], []⟩ [] else ∀(jj:Int) (oo:List VO),K .ret (ak 32 pV (lZ L M t1 t2 jj)) ⟨oo, []⟩ []),c)]
def pW:List Nat:= [4,5,12,13,14]
def kL (L:Bs) (tk:Tok) (n j:Int):List TV:= [.val (.bool false), .val (.int .i64 n), .vec 8 L tk, .val (.int .i64 L.length), .val (.int .i64 j)]
def IG (L:Bs) (tk:Tok) (n:Int) (b:Bool) (c:Code):Nat→Option (bD × Code):=b6 [(0,cO 27 pW [] (kL L tk 0 0) ⟨[], []⟩ (fun K=>bif b then K .normal (ak 27 pW (kL L tk n L.length)) ⟨[], []⟩ [] else ∀(cc jj:Int) (oo:List VO),K .ret (ak 27 pW (kL L tk cc jj)) ⟨oo, []⟩ []),c)]
def CP (c:Code):Nat→Option (bD × Code):=b6 [(0,fun _ _ _ _ _ _=>False,c)]
def ur:List Nat:= [0,3,4,13,14,15]
def l3 (L:Bs) (tk:Tok) (u:Bs) (s:Bool) (j:Int):List TV:= [.vec 8 L tk, .vec 7 u .none, .val (.bool s), .vec 7 u .none, .val (.int .i64 u.length), .val (.int .i64 j)]
def II (L:Bs) (tk:Tok) (u:Bs) (s:Bool) (c:Code):Nat→Option (bD × Code):=b6 [(0,cO 72 ur [] (l3 L tk u false 0) ⟨[], []⟩ (fun K=>K .normal (ak 72 ur (l3 L tk u s u.length)) ⟨[], []⟩ []),c)]
theorem Gb (a n:Int) (x:AtV) (g:Bool) (Q:TV→VT→Prop):aq Try.prog ae aS (aG [(999998, .dead,none)]) 300 az 0 ui [.agg (fA a n x g)] ⟨[], []⟩ Q=
Q (.val (.bool (g))) ⟨[(.cells [(.val (.int .u32 (a))),(.val (.int .i64 (n))),(.val (.int .i64 (AtV.o x))),(.vec 1 (iV (AtV.p x)) .none),(.val (.int .u32 (AtV.h x))),(.val (.int .i64 (AtV.m x))),(.val (.bool (AtV.hm x))),(.val (.bool (g)))])], []⟩:=by kernel_rfl
theorem Gc (a n:Int) (x y:AtV) (g ok:Bool) (Q:TV→VT→Prop):aq Try.prog ae (ax [(mO,zq ok)]) (aG [(999998, .dead,none)]) 300 az 0 uj [.agg (fA a n x g), .ptr 0 0] ⟨[.cells y.cells], []⟩ Q=
 (BM [(.val (.int .i64 (AtV.o x))),(.vec 1 (iV (AtV.p x)) .none),(.val (.int .u32 (AtV.h x))),(.val (.int .i64 (AtV.m x))),(.val (.bool (AtV.hm x)))] [(.val (.int .i64 (AtV.o y))),(.vec 1 (iV (AtV.p y)) .none),(.val (.int .u32 (AtV.h y))),(.val (.int .i64 (AtV.m y))),(.val (.bool (AtV.hm y)))] (ok)∧
 Q (.val (.bool (ok))) ⟨[(.cells [(.val (.int .i64 (AtV.o y))),(.vec 1 (iV (AtV.p y)) .none),(.val (.int .u32 (AtV.h y))),(.val (.int .i64 (AtV.m y))),(.val (.bool (AtV.hm y)))]),(.cells [(.val (.int .u32 (a))),(.val (.int .i64 (n))),(.val (.int .i64 (AtV.o x))),(.vec 1 (iV (AtV.p x)) .none),(.val (.int .u32 (AtV.h x))),(.val (.int .i64 (AtV.m x))),(.val (.bool (AtV.hm x))),(.val (.bool (g)))])], []⟩):=by kernel_rfl
theorem Ge (L a b:Bs) (tk:Tok) (Q:TV→VT→Prop):aq Try.prog ae aS (aG [(999998, .dead,none)]) 300 (Ib jP [] L tk a b (am Try.prog fB 0)) 0 fB [.vec 8 L tk,jP] ⟨[], []⟩ Q=
 ((am Try.prog fB (0:Nat)=am Try.prog fB (0:Nat))∧
 (((@Eq (Option Nat) .none .none)∧
 ((@Eq (Nat) 0 0)∧
 ((@Eq (List Nat) [] [])∧
 (((@Eq (Option TV) (.some (.val (.slice .none 0 0))) (.some (.val (.slice .none 0 0))))∧
 ((@Eq (Option TV) (.some (.val (.slice .none 0 0))) (.some (.val (.slice .none 0 0))))∧
 True))∧
 ((@Eq (VT) ⟨[], [(0,(8,true)),(0,(8,true))]⟩ ⟨[], [(0,(8,true)),(0,(8,true))]⟩)∧
 ((@Eq (Bool) true true)∧
 (@Eq (List TV) [(.fn (.func 60) [] []),(.vec 8 [] (.tail 0 0)),(.vec 8 [] (.tail 1 0)),(.vec 8 (L) (tk)),(.val (.int .i64 ((↑(List.length L):Int)))),(.val (.int .i64 0))] [(.fn (.func 60) [] []),(.vec 8 [] (.tail 0 0)),(.vec 8 [] (.tail 1 0)),(.vec 8 (L) (tk)),(.val (.int .i64 ((↑(List.length L):Int)))),(.val (.int .i64 0))])))))))∧
 Q (.tup [(.vec 8 (a) (.tail 0 (List.length a))),(.vec 8 (b) (.tail 1 (List.length b)))]) ⟨[], [((List.length a),(8,true)),((List.length b),(8,true))]⟩)):=by kernel_rfl
theorem zW (L a b a2 b2:Bs) (tk:Tok) (z n:Int) (x:AtV) (g ok:Bool) (j k2 k3:Nat) (tl2 tl3:mI) (Q:Exit→List TV→VT→List Nat→Nat→Prop):vx Try.prog ae (ax [(ui,xJ ok)]) (aG [(999998, .dead,none),(14, .elt (fA z n x g),none),(22, .vec 8 a2 (.tail 0 k2),some fun T=>{T with tails:=tl2}),(26, .vec 8 b2 (.tail 1 k3),some fun T=>{T with tails:=tl3})]) 300 az none 0 (bQ Try.prog fB 0) (ak 30 jR (dG jP L tk a b j)) (fU [] a.length b.length) [] (ct jR Q)=
 (bif decide ((↑j:Int)<(↑(List.length L):Int))
 then (aW Try.prog (fun _=> .none) (.indexAddr 48 (.tmp 10) (.tmp 12)) [(10,(.vec 8 (L) (tk))),(12,(.val (.int .i64 ((↑j:Int)))))] (.elt [(.val (.int .u32 (z))),(.val (.int .i64 (n))),(.val (.int .i64 (AtV.o x))),(.vec 1 (iV (AtV.p x)) .none),(.val (.int .u32 (AtV.h x))),(.val (.int .i64 (AtV.m x))),(.val (.bool (AtV.hm x))),(.val (.bool (g)))])∧
 (F0 [(.val (.int .u32 (z))),(.val (.int .i64 (n))),(.val (.int .i64 (AtV.o x))),(.vec 1 (iV (AtV.p x)) .none),(.val (.int .u32 (AtV.h x))),(.val (.int .i64 (AtV.m x))),(.val (.bool (AtV.hm x))),(.val (.bool (g)))] (ok)∧
 (bif ok
 then (aZ Try.prog (fun _=> .none) 0 ⟨[(.cells [(.val (.int .u32 (z))),(.val (.int .i64 (n))),(.val (.int .i64 (AtV.o x))),(.vec 1 (iV (AtV.p x)) .none),(.val (.int .u32 (AtV.h x))),(.val (.int .i64 (AtV.m x))),(.val (.bool (AtV.hm x))),(.val (.bool (g)))])], [((List.length a),(8,true)),((List.length b),(8,true))]⟩ (.call ⟨(.builtin .append), #[(.tmp 19),(.tmp 21)], #[48,48]⟩) [(19,(.vec 8 (a) (.tail 0 (List.length a)))),(21,(.vec 8 [[(.val (.int .u32 (z))),(.val (.int .i64 (n))),(.val (.int .i64 (AtV.o x))),(.vec 1 (iV (AtV.p x)) .none),(.val (.int .u32 (AtV.h x))),(.val (.int .i64 (AtV.m x))),(.val (.bool (AtV.hm x))),(.val (.bool (g)))]] .full))] (.vec 8 (a2) (.tail 0 (k2))) ⟨[(.cells [(.val (.int .u32 (z))),(.val (.int .i64 (n))),(.val (.int .i64 (AtV.o x))),(.vec 1 (iV (AtV.p x)) .none),(.val (.int .u32 (AtV.h x))),(.val (.int .i64 (AtV.m x))),(.val (.bool (AtV.hm x))),(.val (.bool (g)))])],(tl2)⟩∧
 Q .normal [(.fn (.func 60) [] []),(.vec 8 (a2) (.tail 0 (k2))),(.vec 8 (b) (.tail 1 (List.length b))),(.vec 8 (L) (tk)),(.val (.int .i64 ((↑(List.length L):Int)))),(.val (.int .i64 (IntKind.wrap IntKind.i64 ((↑j:Int)+(1:Int)))))] ⟨[(.cells [(.val (.int .u32 (z))),(.val (.int .i64 (n))),(.val (.int .i64 (AtV.o x))),(.vec 1 (iV (AtV.p x)) .none),(.val (.int .u32 (AtV.h x))),(.val (.int .i64 (AtV.m x))),(.val (.bool (AtV.hm x))),(.val (.bool (g)))])],(tl2)⟩ [] 30)
 else (aZ Try.prog (fun _=> .none) 0 ⟨[(.cells [(.val (.int .u32 (z))),(.val (.int .i64 (n))),(.val (.int .i64 (AtV.o x))),(.vec 1 (iV (AtV.p x)) .none),(.val (.int .u32 (AtV.h x))),(.val (.int .i64 (AtV.m x))),(.val (.bool (AtV.hm x))),(.val (.bool (g)))])], [((List.length a),(8,true)),((List.length b),(8,true))]⟩ (.call ⟨(.builtin .append), #[(.tmp 23),(.tmp 25)], #[48,48]⟩) [(23,(.vec 8 (b) (.tail 1 (List.length b)))),(25,(.vec 8 [[(.val (.int .u32 (z))),(.val (.int .i64 (n))),(.val (.int .i64 (AtV.o x))),(.vec 1 (iV (AtV.p x)) .none),(.val (.int .u32 (AtV.h x))),(.val (.int .i64 (AtV.m x))),(.val (.bool (AtV.hm x))),(.val (.bool (g)))]] .full))] (.vec 8 (b2) (.tail 1 (k3))) ⟨[(.cells [(.val (.int .u32 (z))),(.val (.int .i64 (n))),(.val (.int .i64 (AtV.o x))),(.vec 1 (iV (AtV.p x)) .none),(.val (.int .u32 (AtV.h x))),(.val (.int .i64 (AtV.m x))),(.val (.bool (AtV.hm x))),(.val (.bool (g)))])],(tl3)⟩∧
 Q .normal [(.fn (.func 60) [] []),(.vec 8 (a) (.tail 0 (List.length a))),(.vec 8 (b2) (.tail 1 (k3))),(.vec 8 (L) (tk)),(.val (.int .i64 ((↑(List.length L):Int)))),(.val (.int .i64 (IntKind.wrap IntKind.i64 ((↑j:Int)+(1:Int)))))] ⟨[(.cells [(.val (.int .u32 (z))),(.val (.int .i64 (n))),(.val (.int .i64 (AtV.o x))),(.vec 1 (iV (AtV.p x)) .none),(.val (.int .u32 (AtV.h x))),(.val (.int .i64 (AtV.m x))),(.val (.bool (AtV.hm x))),(.val (.bool (g)))])],(tl3)⟩ [] 30))))
 else Q (.exit 0) [(.fn (.func 60) [] []),(.vec 8 (a) (.tail 0 (List.length a))),(.vec 8 (b) (.tail 1 (List.length b))),(.vec 8 (L) (tk)),(.val (.int .i64 ((↑(List.length L):Int)))),(.val (.int .i64 ((↑j:Int))))] ⟨[], [((List.length a),(8,true)),((List.length b),(8,true))]⟩ [] 30):=by kernel_rfl
theorem Gf (y:AtV) (L a b:Bs) (tk:Tok) (Q:TV→VT→Prop):aq Try.prog ae aS (aG [(999998, .dead,none)]) 300 (Ib jQ [.cells y.cells] L tk a b (am Try.prog fB 0)) 0 fB [.vec 8 L tk,jQ] ⟨[.cells y.cells], []⟩ Q=
 ((am Try.prog fB (0:Nat)=am Try.prog fB (0:Nat))∧
 (((@Eq (Option Nat) .none .none)∧
 ((@Eq (Nat) 0 0)∧
 ((@Eq (List Nat) [] [])∧
 (((@Eq (Option TV) (.some (.val (.slice .none 0 0))) (.some (.val (.slice .none 0 0))))∧
 ((@Eq (Option TV) (.some (.val (.slice .none 0 0))) (.some (.val (.slice .none 0 0))))∧
 True))∧
 ((@Eq (VT) ⟨[(.cells [(.val (.int .i64 (AtV.o y))),(.vec 1 (iV (AtV.p y)) .none),(.val (.int .u32 (AtV.h y))),(.val (.int .i64 (AtV.m y))),(.val (.bool (AtV.hm y)))])], [(0,(8,true)),(0,(8,true))]⟩ ⟨[(.cells [(.val (.int .i64 (AtV.o y))),(.vec 1 (iV (AtV.p y)) .none),(.val (.int .u32 (AtV.h y))),(.val (.int .i64 (AtV.m y))),(.val (.bool (AtV.hm y)))])], [(0,(8,true)),(0,(8,true))]⟩)∧
 ((@Eq (Bool) true true)∧
 (@Eq (List TV) [(.fn (.func 62) [] [(.ptr 0 0)]),(.vec 8 [] (.tail 0 0)),(.vec 8 [] (.tail 1 0)),(.vec 8 (L) (tk)),(.val (.int .i64 ((↑(List.length L):Int)))),(.val (.int .i64 0))] [(.fn (.func 62) [] [(.ptr 0 0)]),(.vec 8 [] (.tail 0 0)),(.vec 8 [] (.tail 1 0)),(.vec 8 (L) (tk)),(.val (.int .i64 ((↑(List.length L):Int)))),(.val (.int .i64 0))])))))))∧
 Q (.tup [(.vec 8 (a) (.tail 0 (List.length a))),(.vec 8 (b) (.tail 1 (List.length b)))]) ⟨[(.cells [(.val (.int .i64 (AtV.o y))),(.vec 1 (iV (AtV.p y)) .none),(.val (.int .u32 (AtV.h y))),(.val (.int .i64 (AtV.m y))),(.val (.bool (AtV.hm y)))])], [((List.length a),(8,true)),((List.length b),(8,true))]⟩)):=by kernel_rfl
theorem zX (y:AtV) (L a b a2 b2:Bs) (tk:Tok) (z n:Int) (x:AtV) (g ok:Bool) (j k2 k3:Nat) (tl2 tl3:mI) (Q:Exit→List TV→VT→List Nat→Nat→Prop):vx Try.prog ae (ax [(uj,xK y.cells ok)]) (aG [(999998, .dead,none),(14, .elt (fA z n x g),none),(22, .vec 8 a2 (.tail 0 k2),some fun T=>{T with tails:=tl2}),(26, .vec 8 b2 (.tail 1 k3),some fun T=>{T with tails:=tl3})]) 300 az none 0 (bQ Try.prog fB 0) (ak 30 jR (dG jQ L tk a b j)) (fU [.cells y.cells] a.length b.length) [] (ct jR Q)=
 (bif decide ((↑j:Int)<(↑(List.length L):Int))
 then (aW Try.prog (fun _=> .none) (.indexAddr 48 (.tmp 10) (.tmp 12)) [(10,(.vec 8 (L) (tk))),(12,(.val (.int .i64 ((↑j:Int)))))] (.elt [(.val (.int .u32 (z))),(.val (.int .i64 (n))),(.val (.int .i64 (AtV.o x))),(.vec 1 (iV (AtV.p x)) .none),(.val (.int .u32 (AtV.h x))),(.val (.int .i64 (AtV.m x))),(.val (.bool (AtV.hm x))),(.val (.bool (g)))])∧
 (((@Eq (Bool) true true)∧
 ((@Eq (Option VO) (.some (.cells [(.val (.int .i64 (AtV.o y))),(.vec 1 (iV (AtV.p y)) .none),(.val (.int .u32 (AtV.h y))),(.val (.int .i64 (AtV.m y))),(.val (.bool (AtV.hm y)))])) (.some (.cells [(.val (.int .i64 (AtV.o y))),(.vec 1 (iV (AtV.p y)) .none),(.val (.int .u32 (AtV.h y))),(.val (.int .i64 (AtV.m y))),(.val (.bool (AtV.hm y)))])))∧
 F1 [(.val (.int .i64 (AtV.o y))),(.vec 1 (iV (AtV.p y)) .none),(.val (.int .u32 (AtV.h y))),(.val (.int .i64 (AtV.m y))),(.val (.bool (AtV.hm y)))] [(.val (.int .u32 (z))),(.val (.int .i64 (n))),(.val (.int .i64 (AtV.o x))),(.vec 1 (iV (AtV.p x)) .none),(.val (.int .u32 (AtV.h x))),(.val (.int .i64 (AtV.m x))),(.val (.bool (AtV.hm x))),(.val (.bool (g)))] (ok)))∧
 (bif ok
 then (aZ Try.prog (fun _=> .none) 0 ⟨[(.cells [(.val (.int .i64 (AtV.o y))),(.vec 1 (iV (AtV.p y)) .none),(.val (.int .u32 (AtV.h y))),(.val (.int .i64 (AtV.m y))),(.val (.bool (AtV.hm y)))]),(.cells [(.val (.int .u32 (z))),(.val (.int .i64 (n))),(.val (.int .i64 (AtV.o x))),(.vec 1 (iV (AtV.p x)) .none),(.val (.int .u32 (AtV.h x))),(.val (.int .i64 (AtV.m x))),(.val (.bool (AtV.hm x))),(.val (.bool (g)))])], [((List.length a),(8,true)),((List.length b),(8,true))]⟩ (.call ⟨(.builtin .append), #[(.tmp 19),(.tmp 21)], #[48,48]⟩) [(19,(.vec 8 (a) (.tail 0 (List.length a)))),(21,(.vec 8 [[(.val (.int .u32 (z))),(.val (.int .i64 (n))),(.val (.int .i64 (AtV.o x))),(.vec 1 (iV (AtV.p x)) .none),(.val (.int .u32 (AtV.h x))),(.val (.int .i64 (AtV.m x))),(.val (.bool (AtV.hm x))),(.val (.bool (g)))]] .full))] (.vec 8 (a2) (.tail 0 (k2))) ⟨[(.cells [(.val (.int .i64 (AtV.o y))),(.vec 1 (iV (AtV.p y)) .none),(.val (.int .u32 (AtV.h y))),(.val (.int .i64 (AtV.m y))),(.val (.bool (AtV.hm y)))]),(.cells [(.val (.int .u32 (z))),(.val (.int .i64 (n))),(.val (.int .i64 (AtV.o x))),(.vec 1 (iV (AtV.p x)) .none),(.val (.int .u32 (AtV.h x))),(.val (.int .i64 (AtV.m x))),(.val (.bool (AtV.hm x))),(.val (.bool (g)))])],(tl2)⟩∧
 Q .normal [(.fn (.func 62) [] [(.ptr 0 0)]),(.vec 8 (a2) (.tail 0 (k2))),(.vec 8 (b) (.tail 1 (List.length b))),(.vec 8 (L) (tk)),(.val (.int .i64 ((↑(List.length L):Int)))),(.val (.int .i64 (IntKind.wrap IntKind.i64 ((↑j:Int)+(1:Int)))))] ⟨[(.cells [(.val (.int .i64 (AtV.o y))),(.vec 1 (iV (AtV.p y)) .none),(.val (.int .u32 (AtV.h y))),(.val (.int .i64 (AtV.m y))),(.val (.bool (AtV.hm y)))]),(.cells [(.val (.int .u32 (z))),(.val (.int .i64 (n))),(.val (.int .i64 (AtV.o x))),(.vec 1 (iV (AtV.p x)) .none),(.val (.int .u32 (AtV.h x))),(.val (.int .i64 (AtV.m x))),(.val (.bool (AtV.hm x))),(.val (.bool (g)))])],(tl2)⟩ [] 30)
 else (aZ Try.prog (fun _=> .none) 0 ⟨[(.cells [(.val (.int .i64 (AtV.o y))),(.vec 1 (iV (AtV.p y)) .none),(.val (.int .u32 (AtV.h y))),(.val (.int .i64 (AtV.m y))),(.val (.bool (AtV.hm y)))]),(.cells [(.val (.int .u32 (z))),(.val (.int .i64 (n))),(.val (.int .i64 (AtV.o x))),(.vec 1 (iV (AtV.p x)) .none),(.val (.int .u32 (AtV.h x))),(.val (.int .i64 (AtV.m x))),(.val (.bool (AtV.hm x))),(.val (.bool (g)))])], [((List.length a),(8,true)),((List.length b),(8,true))]⟩ (.call ⟨(.builtin .append), #[(.tmp 23),(.tmp 25)], #[48,48]⟩) [(23,(.vec 8 (b) (.tail 1 (List.length b)))),(25,(.vec 8 [[(.val (.int .u32 (z))),(.val (.int .i64 (n))),(.val (.int .i64 (AtV.o x))),(.vec 1 (iV (AtV.p x)) .none),(.val (.int .u32 (AtV.h x))),(.val (.int .i64 (AtV.m x))),(.val (.bool (AtV.hm x))),(.val (.bool (g)))]] .full))] (.vec 8 (b2) (.tail 1 (k3))) ⟨[(.cells [(.val (.int .i64 (AtV.o y))),(.vec 1 (iV (AtV.p y)) .none),(.val (.int .u32 (AtV.h y))),(.val (.int .i64 (AtV.m y))),(.val (.bool (AtV.hm y)))]),(.cells [(.val (.int .u32 (z))),(.val (.int .i64 (n))),(.val (.int .i64 (AtV.o x))),(.vec 1 (iV (AtV.p x)) .none),(.val (.int .u32 (AtV.h x))),(.val (.int .i64 (AtV.m x))),(.val (.bool (AtV.hm x))),(.val (.bool (g)))])],(tl3)⟩∧
 Q .normal [(.fn (.func 62) [] [(.ptr 0 0)]),(.vec 8 (a) (.tail 0 (List.length a))),(.vec 8 (b2) (.tail 1 (k3))),(.vec 8 (L) (tk)),(.val (.int .i64 ((↑(List.length L):Int)))),(.val (.int .i64 (IntKind.wrap IntKind.i64 ((↑j:Int)+(1:Int)))))] ⟨[(.cells [(.val (.int .i64 (AtV.o y))),(.vec 1 (iV (AtV.p y)) .none),(.val (.int .u32 (AtV.h y))),(.val (.int .i64 (AtV.m y))),(.val (.bool (AtV.hm y)))]),(.cells [(.val (.int .u32 (z))),(.val (.int .i64 (n))),(.val (.int .i64 (AtV.o x))),(.vec 1 (iV (AtV.p x)) .none),(.val (.int .u32 (AtV.h x))),(.val (.int .i64 (AtV.m x))),(.val (.bool (AtV.hm x))),(.val (.bool (g)))])],(tl3)⟩ [] 30))))
 else Q (.exit 0) [(.fn (.func 62) [] [(.ptr 0 0)]),(.vec 8 (a) (.tail 0 (List.length a))),(.vec 8 (b) (.tail 1 (List.length b))),(.vec 8 (L) (tk)),(.val (.int .i64 ((↑(List.length L):Int)))),(.val (.int .i64 ((↑j:Int))))] ⟨[(.cells [(.val (.int .i64 (AtV.o y))),(.vec 1 (iV (AtV.p y)) .none),(.val (.int .u32 (AtV.h y))),(.val (.int .i64 (AtV.m y))),(.val (.bool (AtV.hm y)))])], [((List.length a),(8,true)),((List.length b),(8,true))]⟩ [] 30):=by kernel_rfl
theorem Hw (L p:Bs) (tk:Tok) (Q:TV→VT→Prop):aq Try.prog ae aS (aG [(999998, .dead,none)]) 300 (Iy L tk p (am Try.prog nX 0)) 0 nX [.vec 8 L tk] ⟨[], []⟩ Q=
 ((am Try.prog nX (0:Nat)=am Try.prog nX (0:Nat))∧
 (((@Eq (Option Nat) .none .none)∧
 ((@Eq (Nat) 0 0)∧
 ((@Eq (List Nat) [] [])∧
 (((@Eq (Option TV) (.some (.val (.slice .none 0 0))) (.some (.val (.slice .none 0 0))))∧
 True)∧
 ((@Eq (VT) ⟨[], [(0,(2,true))]⟩ ⟨[], [(0,(2,true))]⟩)∧
 ((@Eq (Bool) true true)∧
 (@Eq (List TV) [(.vec 2 [] (.tail 0 0)),(.vec 8 (L) (tk)),(.val (.int .i64 ((↑(List.length L):Int)))),(.val (.int .i64 0))] [(.vec 2 [] (.tail 0 0)),(.vec 8 (L) (tk)),(.val (.int .i64 ((↑(List.length L):Int)))),(.val (.int .i64 0))])))))))∧
 Q (.vec 2 (p) (.tail 0 (List.length p))) ⟨[], [((List.length p),(2,true))]⟩)):=by kernel_rfl
theorem zY (L p p2:Bs) (tk:Tok) (z n:Int) (x:AtV) (g:Bool) (j k2:Nat) (tl2:mI) (Q:Exit→List TV→VT→List Nat→Nat→Prop):vx Try.prog ae aS (aG [(999998, .dead,none),(10, .elt (fA z n x g),none),(16, .vec 2 p2 (.tail 0 k2),some fun T=>{T with tails:=tl2})]) 300 az none 0 (bQ Try.prog nX 0) (ak 19 uo (nZ L tk p j)) (rH p.length) [] (ct uo Q)=
 (bif decide ((↑j:Int)<(↑(List.length L):Int))
 then (aW Try.prog (fun _=> .none) (.indexAddr 48 (.tmp 6) (.tmp 8)) [(6,(.vec 8 (L) (tk))),(8,(.val (.int .i64 ((↑j:Int)))))] (.elt [(.val (.int .u32 (z))),(.val (.int .i64 (n))),(.val (.int .i64 (AtV.o x))),(.vec 1 (iV (AtV.p x)) .none),(.val (.int .u32 (AtV.h x))),(.val (.int .i64 (AtV.m x))),(.val (.bool (AtV.hm x))),(.val (.bool (g)))])∧
 (aZ Try.prog (fun _=> .none) 0 ⟨[(.cells [(.val (.int .u32 (z))),(.val (.int .i64 (n))),(.val (.int .i64 (AtV.o x))),(.vec 1 (iV (AtV.p x)) .none),(.val (.int .u32 (AtV.h x))),(.val (.int .i64 (AtV.m x))),(.val (.bool (AtV.hm x))),(.val (.bool (g)))])], [((List.length p),(2,true))]⟩ (.call ⟨(.builtin .append), #[(.tmp 12),(.tmp 15)], #[42,42]⟩) [(12,(.vec 2 (p) (.tail 0 (List.length p)))),(15,(.vec 2 [[(.val (.int .u32 (z))),(.val (.int .i64 (n)))]] .full))] (.vec 2 (p2) (.tail 0 (k2))) ⟨[(.cells [(.val (.int .u32 (z))),(.val (.int .i64 (n))),(.val (.int .i64 (AtV.o x))),(.vec 1 (iV (AtV.p x)) .none),(.val (.int .u32 (AtV.h x))),(.val (.int .i64 (AtV.m x))),(.val (.bool (AtV.hm x))),(.val (.bool (g)))])],(tl2)⟩∧
 Q .normal [(.vec 2 (p2) (.tail 0 (k2))),(.vec 8 (L) (tk)),(.val (.int .i64 ((↑(List.length L):Int)))),(.val (.int .i64 (IntKind.wrap IntKind.i64 ((↑j:Int)+(1:Int)))))] ⟨[(.cells [(.val (.int .u32 (z))),(.val (.int .i64 (n))),(.val (.int .i64 (AtV.o x))),(.vec 1 (iV (AtV.p x)) .none),(.val (.int .u32 (AtV.h x))),(.val (.int .i64 (AtV.m x))),(.val (.bool (AtV.hm x))),(.val (.bool (g)))])],(tl2)⟩ [] 19))
 else Q (.exit 0) [(.vec 2 (p) (.tail 0 (List.length p))),(.vec 8 (L) (tk)),(.val (.int .i64 ((↑(List.length L):Int)))),(.val (.int .i64 ((↑j:Int))))] ⟨[], [((List.length p),(2,true))]⟩ [] 19):=by kernel_rfl
theorem Hx (L p:Bs) (tk:Tok) (z n:Int) (x:AtV) (g:Bool) (Q:TV→VT→Prop):aq Try.prog ae (ax [(nX,F5 p)]) (aG [(999998, .dead,none),(4, .elt (fA z n x g),none),(11, .elt (fA z n x g),none)]) 300 az 0 uf [.vec 8 L tk] ⟨[], []⟩ Q=
 (aW Try.prog (fun _=> .none) (.indexAddr 48 (.tmp 3) (.const (.int .i64 0))) [(3,(.vec 8 (L) (tk)))] (.elt [(.val (.int .u32 (z))),(.val (.int .i64 (n))),(.val (.int .i64 (AtV.o x))),(.vec 1 (iV (AtV.p x)) .none),(.val (.int .u32 (AtV.h x))),(.val (.int .i64 (AtV.m x))),(.val (.bool (AtV.hm x))),(.val (.bool (g)))])∧
 (bif g
 then (BZ (L) (p)∧
 Q (.agg [(.vec 2 (p) .none),(.val (.int .i64 0)),(.val (.slice .none 0 0)),(.val (.int .u32 0)),(.val (.int .i64 0)),(.val (.bool false)),(.val (.slice .none 0 0))]) ⟨[(.cells [(.vec 2 (p) .none),(.val (.int .i64 0)),(.val (.slice .none 0 0)),(.val (.int .u32 0)),(.val (.int .i64 0)),(.val (.bool false)),(.val (.slice .none 0 0))])], []⟩)
 else (aW Try.prog (fun _=> .none) (.indexAddr 48 (.tmp 10) (.const (.int .i64 0))) [(10,(.vec 8 (L) (tk)))] (.elt [(.val (.int .u32 (z))),(.val (.int .i64 (n))),(.val (.int .i64 (AtV.o x))),(.vec 1 (iV (AtV.p x)) .none),(.val (.int .u32 (AtV.h x))),(.val (.int .i64 (AtV.m x))),(.val (.bool (AtV.hm x))),(.val (.bool (g)))])∧
 (BZ (L) (p)∧
 (((@Eq (Option TV) (.some (.agg [(.val (.int .i64 (AtV.o x))),(.vec 1 (iV (AtV.p x)) .none),(.val (.int .u32 (AtV.h x))),(.val (.int .i64 (AtV.m x))),(.val (.bool (AtV.hm x)))])) (.some (.agg [(.val (.int .i64 (AtV.o x))),(.vec 1 (iV (AtV.p x)) .none),(.val (.int .u32 (AtV.h x))),(.val (.int .i64 (AtV.m x))),(.val (.bool (AtV.hm x)))])))∧
 True)∧
 Q (.agg [(.val (.slice .none 0 0)),(.val (.int .i64 (AtV.o x))),(.vec 1 (iV (AtV.p x)) .none),(.val (.int .u32 (AtV.h x))),(.val (.int .i64 (AtV.m x))),(.val (.bool (AtV.hm x))),(.vec 2 (p) .none)]) ⟨[(.cells [(.val (.slice .none 0 0)),(.val (.int .i64 (AtV.o x))),(.vec 1 (iV (AtV.p x)) .none),(.val (.int .u32 (AtV.h x))),(.val (.int .i64 (AtV.m x))),(.val (.bool (AtV.hm x))),(.vec 2 (p) .none)])], []⟩))))):=by kernel_rfl
theorem Hy (L w n:Bs) (tk:Tok) (x:AtV) (z:Int) (Q:TV→VT→Prop):aq Try.prog ae (ax [(uf,zN w x n),(v8,zV z)]) (aG [(999998, .dead,none)]) 300 az 0 ug [.vec 8 L tk, .ptr 0 0] ⟨[jO], []⟩ Q=
 (B1 (L) (w) (x) (n)∧
 (B6 [(.vec 2 (w) .none),(.val (.int .i64 (AtV.o x))),(.vec 1 (iV (AtV.p x)) .none),(.val (.int .u32 (AtV.h x))),(.val (.int .i64 (AtV.m x))),(.val (.bool (AtV.hm x))),(.vec 2 (n) .none)] (z)∧
 Q (.val (.bool (decide (z≤(4077:Int))))) ⟨[(.cells [(.fn (.func 85) [] [])])], []⟩)):=by kernel_rfl
theorem Hz (L o:Bs) (tk:Tok) (Q:TV→VT→Prop):aq Try.prog ae aS (aG [(999998, .dead,none)]) 300 (Iz L tk o (am Try.prog gt 0)) 0 gt [.vec 8 L tk,we] ⟨[jO], []⟩ Q=
 ((am Try.prog gt (0:Nat)=am Try.prog gt (0:Nat))∧
 (((@Eq (Option Nat) .none .none)∧
 ((@Eq (Nat) 0 0)∧
 ((@Eq (List Nat) [] [])∧
 (((@Eq (Option TV) (.some (.val (.slice .none 0 0))) (.some (.val (.slice .none 0 0))))∧
 True)∧
 ((@Eq (VT) ⟨[(.cells [(.fn (.func 85) [] [])])], [(0,(1,true))]⟩ ⟨[(.cells [(.fn (.func 85) [] [])])], [(0,(1,true))]⟩)∧
 ((@Eq (Bool) true true)∧
 (@Eq (List TV) [(.vec 8 (L) (tk)),(.fn (.func 88) [] [(.ptr 0 0)]),(.vec 1 [] (.tail 0 0))] [(.vec 8 (L) (tk)),(.fn (.func 88) [] [(.ptr 0 0)]),(.vec 1 [] (.tail 0 0))])))))))∧
 Q (.vec 1 (o) (.tail 0 (List.length o))) ⟨[(.cells [(.fn (.func 85) [] [])])], [((List.length o),(1,true))]⟩)):=by kernel_rfl
theorem zZ (l l2 c1 o o2:Bs) (tk:Tok) (k k2:Nat) (tl2:mI) (Q:Exit→List TV→VT→List Nat→Nat→Prop):vx Try.prog ae aS (aG [(999998, .dead,none),(28, .vec 8 c1 .none,none),(33, .vec 8 l2 tk,none),(30, .vec 1 o2 (.tail 0 k2),some fun T=>{T with tails:=tl2})]) 300 (IA l tk o k (am Try.prog gt 2)) none 0 (bQ Try.prog gt 0) (ak 35 up (pR l tk o)) (gk o.length) [] (ct up Q)=
 (bif decide ((↑(List.length l):Int)>(0:Int))
 then ((am Try.prog gt (2:Nat)=am Try.prog gt (2:Nat))∧
 (((@Eq (Option Nat) .none .none)∧
 ((@Eq (Nat) 0 0)∧
 ((@Eq (List Nat) [] [])∧
 (True  ∧
 ((@Eq (VT) ⟨[(.cells [(.fn (.func 85) [] [])])], [((List.length o),(1,true))]⟩ ⟨[(.cells [(.fn (.func 85) [] [])])], [((List.length o),(1,true))]⟩)∧
 ((@Eq (Bool) true true)∧
 (@Eq (List TV) [(.vec 8 (l) (tk)),(.fn (.func 88) [] [(.ptr 0 0)]),(.vec 1 (o) (.tail 0 (List.length o))),(.val (.int .i64 1))] [(.vec 8 (l) (tk)),(.fn (.func 88) [] [(.ptr 0 0)]),(.vec 1 (o) (.tail 0 (List.length o))),(.val (.int .i64 1))])))))))∧
 (aW Try.prog (fun _=> .none) (.slice 48 (.tmp 25) .none (.some (.tmp 26)) (.some (.tmp 27))) [(25,(.vec 8 (l) (tk))),(26,(.val (.int .i64 ((↑k:Int))))),(27,(.val (.int .i64 ((↑k:Int)))))] (.vec 8 (c1) .none)∧
 (aW Try.prog (fun _=> .none) (.slice 48 (.tmp 31) (.some (.tmp 32)) .none .none) [(31,(.vec 8 (l) (tk))),(32,(.val (.int .i64 ((↑k:Int)))))] (.vec 8 (l2) (tk))∧
 (aZ Try.prog (fun _=> .none) 0 ⟨[(.cells [(.fn (.func 85) [] [])])], [((List.length o),(1,true))]⟩ (.call ⟨(.builtin .append), #[(.tmp 24),(.tmp 29)], #[133,133]⟩) [(24,(.vec 1 (o) (.tail 0 (List.length o)))),(29,(.vec 1 [[(.vec 8 (c1) .none)]] .full))] (.vec 1 (o2) (.tail 0 (k2))) ⟨[(.cells [(.fn (.func 85) [] [])])],(tl2)⟩∧
 Q .normal [(.vec 8 (l2) (tk)),(.fn (.func 88) [] [(.ptr 0 0)]),(.vec 1 (o2) (.tail 0 (k2)))] ⟨[(.cells [(.fn (.func 85) [] [])])],(tl2)⟩ [] 35)))))
 else Q (.exit 0) [(.vec 8 (l) (tk)),(.fn (.func 88) [] [(.ptr 0 0)]),(.vec 1 (o) (.tail 0 (List.length o)))] ⟨[(.cells [(.fn (.func 85) [] [])])], [((List.length o),(1,true))]⟩ [] 35):=by kernel_rfl
theorem z6 (l l1 o:Bs) (tk:Tok) (k:Nat) (b:Bool) (Q:Exit→List TV→VT→List Nat→Nat→Prop):vx Try.prog ae (ax [(ug,CJ b)]) (aG [(999998, .dead,none),(19, .vec 8 l1 .none,none)]) 300 az none 0 (bQ Try.prog gt 2) (ak 35 n7 (mX l tk o k)) (gk o.length) [] (ct n7 Q)=
 (bif decide ((↑k:Int)<(↑(List.length l):Int))
 then (aW Try.prog (fun _=> .none) (.slice 48 (.tmp 16) .none (.some (.tmp 18)) .none) [(16,(.vec 8 (l) (tk))),(18,(.val (.int .i64 (IntKind.wrap IntKind.i64 ((↑k:Int)+(1:Int))))))] (.vec 8 (l1) .none)∧
 (((@Eq (Bool) true true)∧
 ((@Eq (Option VO) (.some (.cells [(.fn (.func 85) [] [])])) (.some (.cells [(.fn (.func 85) [] [])])))∧
 FW (l1) (b)))∧
 (bif b
 then Q .normal [(.vec 8 (l) (tk)),(.fn (.func 88) [] [(.ptr 0 0)]),(.vec 1 (o) (.tail 0 (List.length o))),(.val (.int .i64 (IntKind.wrap IntKind.i64 ((↑k:Int)+(1:Int)))))] ⟨[(.cells [(.fn (.func 85) [] [])])], [((List.length o),(1,true))]⟩ [] 35
 else Q (.exit 2) [(.vec 8 (l) (tk)),(.fn (.func 88) [] [(.ptr 0 0)]),(.vec 1 (o) (.tail 0 (List.length o))),(.val (.int .i64 ((↑k:Int))))] ⟨[(.cells [(.fn (.func 85) [] [])])], [((List.length o),(1,true))]⟩ [] 35)))
 else Q (.exit 2) [(.vec 8 (l) (tk)),(.fn (.func 88) [] [(.ptr 0 0)]),(.vec 1 (o) (.tail 0 (List.length o))),(.val (.int .i64 ((↑k:Int))))] ⟨[(.cells [(.fn (.func 85) [] [])])], [((List.length o),(1,true))]⟩ [] 35):=by kernel_rfl
theorem HA (L C u:Bs) (tk:Tok) (Q:TV→VT→Prop):aq Try.prog ae (ax [(gt,F6 C)]) (aG [(999998, .dead,none)]) 300 (IB C u (am Try.prog jM 0)) 0 jM [.vec 8 L tk] ⟨[], []⟩ Q=
 (((@Eq (Nat) 88 88)∧
 ((@Eq (Bool) true true)∧
 ((@Eq (Option VO) (.some (.cells [(.fn (.func 85) [] [])])) (.some (.cells [(.fn (.func 85) [] [])])))∧
 FX (L) (C))))∧
 ((am Try.prog jM (0:Nat)=am Try.prog jM (0:Nat))∧
 (((@Eq (Option Nat) .none .none)∧
 ((@Eq (Nat) 0 0)∧
 ((@Eq (List Nat) [] [])∧
 (((@Eq (Option TV) (.some (.val (.slice .none 0 0))) (.some (.val (.slice .none 0 0))))∧
 True)∧
 ((@Eq (VT) ⟨[(.cells [(.fn (.func 85) [] [])])], [(0,(7,true))]⟩ ⟨[(.cells [(.fn (.func 85) [] [])])], [(0,(7,true))]⟩)∧
 ((@Eq (Bool) true true)∧
 (@Eq (List TV) [(.ptr 0 0),(.vec 7 [] (.tail 0 0)),(.vec 1 (C) .none),(.val (.int .i64 ((↑(List.length C):Int)))),(.val (.int .i64 0))] [(.ptr 0 0),(.vec 7 [] (.tail 0 0)),(.vec 1 (C) .none),(.val (.int .i64 ((↑(List.length C):Int)))),(.val (.int .i64 0))])))))))∧
 Q (.vec 7 (u) (.tail 0 (List.length u))) ⟨[(.cells [(.fn (.func 85) [] [])])], [((List.length u),(7,true))]⟩))):=by kernel_rfl
theorem z7 (C u u2 c w n:Bs) (x:AtV) (j k2:Nat) (tl2:mI) (Q:Exit→List TV→VT→List Nat→Nat→Prop):vx Try.prog ae (ax [(uf,zN w x n)]) (aG [(999998, .dead,none),(13, .elt [.vec 8 c .none],none),(20, .vec 7 u2 (.tail 0 k2),some fun T=>{T with tails:=tl2})]) 300 az none 0 (bQ Try.prog jM 0) (ak 23 rI (mY C u j)) (pS u.length) [] (ct rI Q)=
 (bif decide ((↑j:Int)<(↑(List.length C):Int))
 then (aW Try.prog (fun _=> .none) (.indexAddr 133 (.tmp 9) (.tmp 11)) [(9,(.vec 1 (C) .none)),(11,(.val (.int .i64 ((↑j:Int)))))] (.elt [(.vec 8 (c) .none)])∧
 (B1 (c) (w) (x) (n)∧
 (aZ Try.prog (fun _=> .none) 0 ⟨[(.cells [(.fn (.func 85) [] [])])], [((List.length u),(7,true))]⟩ (.call ⟨(.builtin .append), #[(.tmp 15),(.tmp 19)], #[60,60]⟩) [(15,(.vec 7 (u) (.tail 0 (List.length u)))),(19,(.vec 7 [[(.vec 2 (w) .none),(.val (.int .i64 (AtV.o x))),(.vec 1 (iV (AtV.p x)) .none),(.val (.int .u32 (AtV.h x))),(.val (.int .i64 (AtV.m x))),(.val (.bool (AtV.hm x))),(.vec 2 (n) .none)]] .full))] (.vec 7 (u2) (.tail 0 (k2))) ⟨[(.cells [(.fn (.func 85) [] [])])],(tl2)⟩∧
 Q .normal [(.ptr 0 0),(.vec 7 (u2) (.tail 0 (k2))),(.vec 1 (C) .none),(.val (.int .i64 ((↑(List.length C):Int)))),(.val (.int .i64 (IntKind.wrap IntKind.i64 ((↑j:Int)+(1:Int)))))] ⟨[(.cells [(.fn (.func 85) [] [])])],(tl2)⟩ [] 23)))
 else Q (.exit 0) [(.ptr 0 0),(.vec 7 (u) (.tail 0 (List.length u))),(.vec 1 (C) .none),(.val (.int .i64 ((↑(List.length C):Int)))),(.val (.int .i64 ((↑j:Int))))] ⟨[(.cells [(.fn (.func 85) [] [])])], [((List.length u),(7,true))]⟩ [] 23):=by kernel_rfl
theorem HD (L a b u0 u:Bs) (tk:Tok) (R:Bs→Bs) (Q:TV→VT→Prop):aq Try.prog ae (ax [(dF,wc R),(fB,F7 a b),(jM,F8 u0)]) (aG [(999998, .dead,none)]) 300 (IC b u0 u (am Try.prog kK 0)) 0 kK [.vec 8 L tk] ⟨[], []⟩ Q=
 (ue (L)∧
 (((@Eq (Nat) 60 60)∧
 FY (R L) (a) (b))∧
 (((@Eq (Nat) 0 0)∧
 xG (a) (u0))∧
 ((am Try.prog kK (0:Nat)=am Try.prog kK (0:Nat))∧
 (((@Eq (Option Nat) .none .none)∧
 ((@Eq (Nat) 0 0)∧
 ((@Eq (List Nat) [] [])∧
 (True  ∧
 ((@Eq (VT) ⟨[], [((List.length u0),(7,true))]⟩ ⟨[], [((List.length u0),(7,true))]⟩)∧
 ((@Eq (Bool) true true)∧
 (@Eq (List TV) [(.vec 8 (b) .none),(.vec 7 (u0) (.tail 0 (List.length u0)))] [(.vec 8 (b) .none),(.vec 7 (u0) (.tail 0 (List.length u0)))])))))))∧
 Q (.vec 7 (u) (.tail 0 (List.length u))) ⟨[], [((List.length u),(7,true))]⟩))))):=by kernel_rfl
theorem z8 (l a b u u1 u2:Bs) (z n:Int) (x:AtV) (g:Bool) (k2:Nat) (tl2:mI) (Q:Exit→List TV→VT→List Nat→Nat→Prop):vx Try.prog ae (ax [(fB,CL x a b),(jM,CM u1)]) (aG [(999998, .dead,none),(20, .elt (fA z n x g),none),(32, .vec 7 u2 (.tail 0 k2),some fun T=>{T with tails:=tl2})]) 300 az none 0 (bQ Try.prog kK 0) (ak 34 uq (pT l u)) (rJ u.length) [] (ct uq Q)=
 (bif decide ((↑(List.length l):Int)>(0:Int))
 then (aW Try.prog (fun _=> .none) (.indexAddr 48 (.tmp 19) (.const (.int .i64 0))) [(19,(.vec 8 (l) .none))] (.elt [(.val (.int .u32 (z))),(.val (.int .i64 (n))),(.val (.int .i64 (AtV.o x))),(.vec 1 (iV (AtV.p x)) .none),(.val (.int .u32 (AtV.h x))),(.val (.int .i64 (AtV.m x))),(.val (.bool (AtV.hm x))),(.val (.bool (g)))])∧
 (((@Eq (Nat) 62 62)∧
 ((@Eq (Bool) true true)∧
 ((@Eq (Option VO) (.some (.cells [(.val (.int .i64 (AtV.o x))),(.vec 1 (iV (AtV.p x)) .none),(.val (.int .u32 (AtV.h x))),(.val (.int .i64 (AtV.m x))),(.val (.bool (AtV.hm x)))])) (.some (.cells [(.val (.int .i64 (AtV.o x))),(.vec 1 (iV (AtV.p x)) .none),(.val (.int .u32 (AtV.h x))),(.val (.int .i64 (AtV.m x))),(.val (.bool (AtV.hm x)))])))∧
 FZ (x) (l) (a) (b))))∧
 (xG (a) (u1)∧
 (aZ Try.prog (fun _=> .none) 0 ⟨[(.cells [(.val (.int .i64 (AtV.o x))),(.vec 1 (iV (AtV.p x)) .none),(.val (.int .u32 (AtV.h x))),(.val (.int .i64 (AtV.m x))),(.val (.bool (AtV.hm x)))])], [((List.length u),(7,true))]⟩ (.call ⟨(.builtin .append), #[(.tmp 29),(.tmp 31)], #[60,60]⟩) [(29,(.vec 7 (u) (.tail 0 (List.length u)))),(31,(.vec 7 (u1) .none))] (.vec 7 (u2) (.tail 0 (k2))) ⟨[(.cells [(.val (.int .i64 (AtV.o x))),(.vec 1 (iV (AtV.p x)) .none),(.val (.int .u32 (AtV.h x))),(.val (.int .i64 (AtV.m x))),(.val (.bool (AtV.hm x)))])],(tl2)⟩∧
 Q .normal [(.vec 8 (b) .none),(.vec 7 (u2) (.tail 0 (k2)))] ⟨[(.cells [(.val (.int .i64 (AtV.o x))),(.vec 1 (iV (AtV.p x)) .none),(.val (.int .u32 (AtV.h x))),(.val (.int .i64 (AtV.m x))),(.val (.bool (AtV.hm x)))])],(tl2)⟩ [] 34))))
 else Q (.exit 0) [(.vec 8 (l) .none),(.vec 7 (u) (.tail 0 (List.length u)))] ⟨[], [((List.length u),(7,true))]⟩ [] 34):=by kernel_rfl
theorem HE (l U:Bs) (tk:Tok) (Q:TV→VT→Prop):aq Try.prog ae aS (aG [(999998, .dead,none)]) 300 (ID l U tk (am Try.prog dO 0)) 0 dO [.vec 7 U tk] ⟨[], []⟩ Q=
 ((am Try.prog dO (0:Nat)=am Try.prog dO (0:Nat))∧
 (((@Eq (Option Nat) .none .none)∧
 ((@Eq (Nat) 0 0)∧
 ((@Eq (List Nat) [] [])∧
 (((@Eq (Option TV) (.some (.val (.slice .none 0 0))) (.some (.val (.slice .none 0 0))))∧
 True)∧
 ((@Eq (VT) ⟨[], [(0,(8,true))]⟩ ⟨[], [(0,(8,true))]⟩)∧
 ((@Eq (Bool) true true)∧
 (@Eq (List TV) [(.vec 8 [] (.tail 0 0)),(.vec 7 (U) (tk)),(.val (.int .i64 ((↑(List.length U):Int)))),(.val (.int .i64 0))] [(.vec 8 [] (.tail 0 0)),(.vec 7 (U) (tk)),(.val (.int .i64 ((↑(List.length U):Int)))),(.val (.int .i64 0))])))))))∧
 Q (.vec 8 (l) (.tail 0 (List.length l))) ⟨[], [((List.length l),(8,true))]⟩)):=by kernel_rfl
theorem Aa (l l1 l2 U w n:Bs) (x:AtV) (tk:Tok) (j:Nat) (Q:Exit→List TV→VT→List Nat→Nat→Prop):vx Try.prog ae aS (aG [(999998, .dead,none),(14, .elt (un w x n),none)]) 300 (IE l l1 l2 U tk j w x n (am Try.prog dO 2) (am Try.prog dO 4)) none 0 (bQ Try.prog dO 0) (ak 46 pU (lY l U tk j)) (n8 l.length) [] (ct pU Q)=
 (bif decide ((↑j:Int)<(↑(List.length U):Int))
 then (aW Try.prog (fun _=> .none) (.indexAddr 60 (.tmp 10) (.tmp 12)) [(10,(.vec 7 (U) (tk))),(12,(.val (.int .i64 ((↑j:Int)))))] (.elt [(.vec 2 (w) .none),(.val (.int .i64 (AtV.o x))),(.vec 1 (iV (AtV.p x)) .none),(.val (.int .u32 (AtV.h x))),(.val (.int .i64 (AtV.m x))),(.val (.bool (AtV.hm x))),(.vec 2 (n) .none)])∧
 ((am Try.prog dO (2:Nat)=am Try.prog dO (2:Nat))∧
 (((@Eq (Option Nat) .none .none)∧
 ((@Eq (Nat) 0 0)∧
 ((@Eq (List Nat) [] [])∧
 (True  ∧
 ((@Eq (VT) ⟨[(.cells [(.vec 2 (w) .none),(.val (.int .i64 (AtV.o x))),(.vec 1 (iV (AtV.p x)) .none),(.val (.int .u32 (AtV.h x))),(.val (.int .i64 (AtV.m x))),(.val (.bool (AtV.hm x))),(.vec 2 (n) .none)])], [((List.length l),(8,true))]⟩ ⟨[(.cells [(.vec 2 (w) .none),(.val (.int .i64 (AtV.o x))),(.vec 1 (iV (AtV.p x)) .none),(.val (.int .u32 (AtV.h x))),(.val (.int .i64 (AtV.m x))),(.val (.bool (AtV.hm x))),(.vec 2 (n) .none)])], [((List.length l),(8,true))]⟩)∧
 ((@Eq (Bool) true true)∧
 (@Eq (List TV) [(.vec 8 (l) (.tail 0 (List.length l))),(.ptr 0 0),(.vec 7 (U) (tk)),(.val (.int .i64 ((↑(List.length U):Int)))),(.val (.int .i64 ((↑j:Int)))),(.vec 2 (w) .none),(.val (.int .i64 ((↑(List.length w):Int)))),(.val (.int .i64 0))] [(.vec 8 (l) (.tail 0 (List.length l))),(.ptr 0 0),(.vec 7 (U) (tk)),(.val (.int .i64 ((↑(List.length U):Int)))),(.val (.int .i64 ((↑j:Int)))),(.vec 2 (w) .none),(.val (.int .i64 ((↑(List.length w):Int)))),(.val (.int .i64 0))])))))))∧
 ((am Try.prog dO (4:Nat)=am Try.prog dO (4:Nat))∧
 (((@Eq (Option Nat) .none .none)∧
 ((@Eq (Nat) 0 0)∧
 ((@Eq (List Nat) [] [])∧
 (True  ∧
 ((@Eq (VT) ⟨[(.cells [(.vec 2 (w) .none),(.val (.int .i64 (AtV.o x))),(.vec 1 (iV (AtV.p x)) .none),(.val (.int .u32 (AtV.h x))),(.val (.int .i64 (AtV.m x))),(.val (.bool (AtV.hm x))),(.vec 2 (n) .none)])], [((List.length l1),(8,true))]⟩ ⟨[(.cells [(.vec 2 (w) .none),(.val (.int .i64 (AtV.o x))),(.vec 1 (iV (AtV.p x)) .none),(.val (.int .u32 (AtV.h x))),(.val (.int .i64 (AtV.m x))),(.val (.bool (AtV.hm x))),(.vec 2 (n) .none)])], [((List.length l1),(8,true))]⟩)∧
 ((@Eq (Bool) true true)∧
 (@Eq (List TV) [(.vec 8 (l1) (.tail 0 (List.length l1))),(.ptr 0 0),(.vec 7 (U) (tk)),(.val (.int .i64 ((↑(List.length U):Int)))),(.val (.int .i64 ((↑j:Int)))),(.vec 2 (n) .none),(.val (.int .i64 ((↑(List.length n):Int)))),(.val (.int .i64 0))] [(.vec 8 (l1) (.tail 0 (List.length l1))),(.ptr 0 0),(.vec 7 (U) (tk)),(.val (.int .i64 ((↑(List.length U):Int)))),(.val (.int .i64 ((↑j:Int)))),(.vec 2 (n) .none),(.val (.int .i64 ((↑(List.length n):Int)))),(.val (.int .i64 0))])))))))∧
 Q .normal [(.vec 8 (l2) (.tail 0 (List.length l2))),(.vec 7 (U) (tk)),(.val (.int .i64 ((↑(List.length U):Int)))),(.val (.int .i64 (IntKind.wrap IntKind.i64 ((↑j:Int)+(1:Int)))))] ⟨[(.cells [(.vec 2 (w) .none),(.val (.int .i64 (AtV.o x))),(.vec 1 (iV (AtV.p x)) .none),(.val (.int .u32 (AtV.h x))),(.val (.int .i64 (AtV.m x))),(.val (.bool (AtV.hm x))),(.vec 2 (n) .none)])], [((List.length l2),(8,true))]⟩ [] 46)))))
 else Q (.exit 0) [(.vec 8 (l) (.tail 0 (List.length l))),(.vec 7 (U) (tk)),(.val (.int .i64 ((↑(List.length U):Int)))),(.val (.int .i64 ((↑j:Int))))] ⟨[], [((List.length l),(8,true))]⟩ [] 46):=by kernel_rfl
theorem Ab (l l2 U w n v:Bs) (x:AtV) (tk:Tok) (a z:Int) (j i k2:Nat) (tl2:mI) (Q:Exit→List TV→VT→List Nat→Nat→Prop):vx Try.prog ae aS (aG [(999998, .dead,none),(21, .elt (cE (a,z)),none),(27, .vec 8 l2 (.tail 0 k2),some fun T=>{T with tails:=tl2})]) 300 az none 0 (bQ Try.prog dO 2) (ak 46 n9 (rK l U tk j v i)) (eX w x n l.length) [] (ct n9 Q)=
 (bif decide ((↑i:Int)<(↑(List.length v):Int))
 then (aW Try.prog (fun _=> .none) (.indexAddr 42 (.tmp 17) (.tmp 19)) [(17,(.vec 2 (v) .none)),(19,(.val (.int .i64 ((↑i:Int)))))] (.elt [(.val (.int .u32 (a))),(.val (.int .i64 (z)))])∧
 (aZ Try.prog (fun _=> .none) 0 ⟨[(.cells [(.vec 2 (w) .none),(.val (.int .i64 (AtV.o x))),(.vec 1 (iV (AtV.p x)) .none),(.val (.int .u32 (AtV.h x))),(.val (.int .i64 (AtV.m x))),(.val (.bool (AtV.hm x))),(.vec 2 (n) .none)]),(.cells [(.val (.int .u32 (a))),(.val (.int .i64 (z)))])], [((List.length l),(8,true))]⟩ (.call ⟨(.builtin .append), #[(.tmp 23),(.tmp 26)], #[48,48]⟩) [(23,(.vec 8 (l) (.tail 0 (List.length l)))),(26,(.vec 8 [[(.val (.int .u32 (a))),(.val (.int .i64 (z))),(.val (.int .i64 0)),(.val (.slice .none 0 0)),(.val (.int .u32 0)),(.val (.int .i64 0)),(.val (.bool false)),(.val (.bool true))]] .full))] (.vec 8 (l2) (.tail 0 (k2))) ⟨[(.cells [(.vec 2 (w) .none),(.val (.int .i64 (AtV.o x))),(.vec 1 (iV (AtV.p x)) .none),(.val (.int .u32 (AtV.h x))),(.val (.int .i64 (AtV.m x))),(.val (.bool (AtV.hm x))),(.vec 2 (n) .none)]),(.cells [(.val (.int .u32 (a))),(.val (.int .i64 (z)))])],(tl2)⟩∧
 Q .normal [(.vec 8 (l2) (.tail 0 (k2))),(.ptr 0 0),(.vec 7 (U) (tk)),(.val (.int .i64 ((↑(List.length U):Int)))),(.val (.int .i64 ((↑j:Int)))),(.vec 2 (v) .none),(.val (.int .i64 ((↑(List.length v):Int)))),(.val (.int .i64 (IntKind.wrap IntKind.i64 ((↑i:Int)+(1:Int)))))] ⟨[(.cells [(.vec 2 (w) .none),(.val (.int .i64 (AtV.o x))),(.vec 1 (iV (AtV.p x)) .none),(.val (.int .u32 (AtV.h x))),(.val (.int .i64 (AtV.m x))),(.val (.bool (AtV.hm x))),(.vec 2 (n) .none)]),(.cells [(.val (.int .u32 (a))),(.val (.int .i64 (z)))])],(tl2)⟩ [] 46))
 else Q (.exit 2) [(.vec 8 (l) (.tail 0 (List.length l))),(.ptr 0 0),(.vec 7 (U) (tk)),(.val (.int .i64 ((↑(List.length U):Int)))),(.val (.int .i64 ((↑j:Int)))),(.vec 2 (v) .none),(.val (.int .i64 ((↑(List.length v):Int)))),(.val (.int .i64 ((↑i:Int))))] ⟨[(.cells [(.vec 2 (w) .none),(.val (.int .i64 (AtV.o x))),(.vec 1 (iV (AtV.p x)) .none),(.val (.int .u32 (AtV.h x))),(.val (.int .i64 (AtV.m x))),(.val (.bool (AtV.hm x))),(.vec 2 (n) .none)])], [((List.length l),(8,true))]⟩ [] 46):=by kernel_rfl
theorem Ac (l l2 U w n v:Bs) (x:AtV) (tk:Tok) (a z:Int) (j i k2:Nat) (tl2:mI) (Q:Exit→List TV→VT→List Nat→Nat→Prop):vx Try.prog ae aS (aG [(999998, .dead,none),(34, .elt (cE (a,z)),none),(42, .vec 8 l2 (.tail 0 k2),some fun T=>{T with tails:=tl2})]) 300 az none 0 (bQ Try.prog dO 4) (ak 46 oa (rK l U tk j v i)) (eX w x n l.length) [] (ct oa Q)=
 (bif decide ((↑i:Int)<(↑(List.length v):Int))
 then (aW Try.prog (fun _=> .none) (.indexAddr 42 (.tmp 30) (.tmp 32)) [(30,(.vec 2 (v) .none)),(32,(.val (.int .i64 ((↑i:Int)))))] (.elt [(.val (.int .u32 (a))),(.val (.int .i64 (z)))])∧
 (aZ Try.prog (fun _=> .none) 0 ⟨[(.cells [(.vec 2 (w) .none),(.val (.int .i64 (AtV.o x))),(.vec 1 (iV (AtV.p x)) .none),(.val (.int .u32 (AtV.h x))),(.val (.int .i64 (AtV.m x))),(.val (.bool (AtV.hm x))),(.vec 2 (n) .none)]),(.cells [(.val (.int .u32 (a))),(.val (.int .i64 (z)))])], [((List.length l),(8,true))]⟩ (.call ⟨(.builtin .append), #[(.tmp 36),(.tmp 41)], #[48,48]⟩) [(36,(.vec 8 (l) (.tail 0 (List.length l)))),(41,(.vec 8 [[(.val (.int .u32 (a))),(.val (.int .i64 (z))),(.val (.int .i64 (AtV.o x))),(.vec 1 (iV (AtV.p x)) .none),(.val (.int .u32 (AtV.h x))),(.val (.int .i64 (AtV.m x))),(.val (.bool (AtV.hm x))),(.val (.bool false))]] .full))] (.vec 8 (l2) (.tail 0 (k2))) ⟨[(.cells [(.vec 2 (w) .none),(.val (.int .i64 (AtV.o x))),(.vec 1 (iV (AtV.p x)) .none),(.val (.int .u32 (AtV.h x))),(.val (.int .i64 (AtV.m x))),(.val (.bool (AtV.hm x))),(.vec 2 (n) .none)]),(.cells [(.val (.int .u32 (a))),(.val (.int .i64 (z)))])],(tl2)⟩∧
 Q .normal [(.vec 8 (l2) (.tail 0 (k2))),(.ptr 0 0),(.vec 7 (U) (tk)),(.val (.int .i64 ((↑(List.length U):Int)))),(.val (.int .i64 ((↑j:Int)))),(.vec 2 (v) .none),(.val (.int .i64 ((↑(List.length v):Int)))),(.val (.int .i64 (IntKind.wrap IntKind.i64 ((↑i:Int)+(1:Int)))))] ⟨[(.cells [(.vec 2 (w) .none),(.val (.int .i64 (AtV.o x))),(.vec 1 (iV (AtV.p x)) .none),(.val (.int .u32 (AtV.h x))),(.val (.int .i64 (AtV.m x))),(.val (.bool (AtV.hm x))),(.vec 2 (n) .none)]),(.cells [(.val (.int .u32 (a))),(.val (.int .i64 (z)))])],(tl2)⟩ [] 46))
 else Q (.exit 4) [(.vec 8 (l) (.tail 0 (List.length l))),(.ptr 0 0),(.vec 7 (U) (tk)),(.val (.int .i64 ((↑(List.length U):Int)))),(.val (.int .i64 ((↑j:Int)))),(.vec 2 (v) .none),(.val (.int .i64 ((↑(List.length v):Int)))),(.val (.int .i64 ((↑i:Int))))] ⟨[(.cells [(.vec 2 (w) .none),(.val (.int .i64 (AtV.o x))),(.vec 1 (iV (AtV.p x)) .none),(.val (.int .u32 (AtV.h x))),(.val (.int .i64 (AtV.m x))),(.val (.bool (AtV.hm x))),(.vec 2 (n) .none)])], [((List.length l),(8,true))]⟩ [] 46):=by kernel_rfl
theorem HF (L M:Bs) (t1 t2:Tok) (b:Bool) (Q:TV→VT→Prop):aq Try.prog ae (ax [(jN,F9 b)]) (aG [(999998, .dead,none)]) 300 az 0 v7 [.vec 8 L t1, .vec 8 M t2] ⟨[], []⟩ Q=
 (((@Eq (Nat) 68 68)∧
 xI (L) (M) (b))∧
 Q (.val (.bool (b))) ⟨[], []⟩):=by kernel_rfl
theorem HG (L M:Bs) (t1 t2:Tok) (b:Bool) (Q:TV→VT→Prop):aq Try.prog ae aS (aG [(999998, .dead,none)]) 300 (IF L M t1 t2 b (am Try.prog jN 0)) 0 jN [.vec 8 L t1, .vec 8 M t2, .fn (.func nY) [] []] ⟨[], []⟩ Q=
 (bif aT BinOp.neq (an (Value.int IntKind.i64 (↑(List.length L):Int)) (Value.int IntKind.i64 (↑(List.length M):Int)))
 then Q (.val (.bool false)) ⟨[], []⟩
 else ((am Try.prog jN (0:Nat)=am Try.prog jN (0:Nat))∧
 (((@Eq (Option Nat) .none .none)∧
 ((@Eq (Nat) 0 0)∧
 ((@Eq (List Nat) [] [])∧
 (True  ∧
 ((@Eq (VT) ⟨[], []⟩ ⟨[], []⟩)∧
 ((@Eq (Bool) true true)∧
 (@Eq (List TV) [(.val (.bool false)),(.vec 8 (M) (t2)),(.fn (.func 68) [] []),(.vec 8 (L) (t1)),(.val (.int .i64 ((↑(List.length L):Int)))),(.val (.int .i64 0))] [(.val (.bool false)),(.vec 8 (M) (t2)),(.fn (.func 68) [] []),(.vec 8 (L) (t1)),(.val (.int .i64 ((↑(List.length L):Int)))),(.val (.int .i64 0))])))))))∧
 (bif b
 then Q (.val (.bool true)) ⟨[], []⟩
 else (∀jj:Int,(∀oo:List VO,Q (.val (.bool false)) ⟨(oo), []⟩)))))):=by kernel_rfl
theorem Gg (L M:Bs) (t1 t2:Tok) (Q:TV→VT→Prop):aq Try.prog ae aS (aG [(999998, .dead,none)]) 300 (CP (am Try.prog jN 0)) 0 jN [.vec 8 L t1, .vec 8 M t2, .fn (.func nY) [] []] ⟨[], []⟩ Q=
 (bif aT BinOp.neq (an (Value.int IntKind.i64 (↑(List.length L):Int)) (Value.int IntKind.i64 (↑(List.length M):Int)))
 then Q (.val (.bool false)) ⟨[], []⟩
 else ((am Try.prog jN (0:Nat)=am Try.prog jN (0:Nat))∧
 False)):=by kernel_rfl
theorem Ad (L M:Bs) (t1 t2:Tok) (a n a2 n2:Int) (x y:AtV) (g h ok:Bool) (j:Nat) (Q:Exit→List TV→VT→List Nat→Nat→Prop):vx Try.prog ae (ax [(nY,CO ok)]) (aG [(999998, .dead,none),(20, .elt (fA a n x g),none),(24, .elt (fA a2 n2 y h),none)]) 300 az none 0 (bQ Try.prog jN 0) (ak 32 pV (lZ L M t1 t2 j)) ⟨[], []⟩ [] (ct pV Q)=
 (bif decide ((↑j:Int)<(↑(List.length L):Int))
 then (aW Try.prog (fun _=> .none) (.indexAddr 48 (.tmp 15) (.tmp 17)) [(15,(.vec 8 (L) (t1))),(17,(.val (.int .i64 ((↑j:Int)))))] (.elt [(.val (.int .u32 (a))),(.val (.int .i64 (n))),(.val (.int .i64 (AtV.o x))),(.vec 1 (iV (AtV.p x)) .none),(.val (.int .u32 (AtV.h x))),(.val (.int .i64 (AtV.m x))),(.val (.bool (AtV.hm x))),(.val (.bool (g)))])∧
 (aW Try.prog (fun _=> .none) (.indexAddr 48 (.tmp 22) (.tmp 23)) [(22,(.vec 8 (M) (t2))),(23,(.val (.int .i64 ((↑j:Int)))))] (.elt [(.val (.int .u32 (a2))),(.val (.int .i64 (n2))),(.val (.int .i64 (AtV.o y))),(.vec 1 (iV (AtV.p y)) .none),(.val (.int .u32 (AtV.h y))),(.val (.int .i64 (AtV.m y))),(.val (.bool (AtV.hm y))),(.val (.bool (h)))])∧
 (F4 [(.val (.int .u32 (a))),(.val (.int .i64 (n))),(.val (.int .i64 (AtV.o x))),(.vec 1 (iV (AtV.p x)) .none),(.val (.int .u32 (AtV.h x))),(.val (.int .i64 (AtV.m x))),(.val (.bool (AtV.hm x))),(.val (.bool (g)))] [(.val (.int .u32 (a2))),(.val (.int .i64 (n2))),(.val (.int .i64 (AtV.o y))),(.vec 1 (iV (AtV.p y)) .none),(.val (.int .u32 (AtV.h y))),(.val (.int .i64 (AtV.m y))),(.val (.bool (AtV.hm y))),(.val (.bool (h)))] (ok)∧
 (bif !ok
 then Q .ret [(.val (.bool false)),(.vec 8 (M) (t2)),(.fn (.func 68) [] []),(.vec 8 (L) (t1)),(.val (.int .i64 ((↑(List.length L):Int)))),(.val (.int .i64 ((↑j:Int))))] ⟨[(.cells [(.val (.int .u32 (a))),(.val (.int .i64 (n))),(.val (.int .i64 (AtV.o x))),(.vec 1 (iV (AtV.p x)) .none),(.val (.int .u32 (AtV.h x))),(.val (.int .i64 (AtV.m x))),(.val (.bool (AtV.hm x))),(.val (.bool (g)))]),(.cells [(.val (.int .u32 (a2))),(.val (.int .i64 (n2))),(.val (.int .i64 (AtV.o y))),(.vec 1 (iV (AtV.p y)) .none),(.val (.int .u32 (AtV.h y))),(.val (.int .i64 (AtV.m y))),(.val (.bool (AtV.hm y))),(.val (.bool (h)))])], []⟩ [] 32
 else Q .normal [(.val (.bool false)),(.vec 8 (M) (t2)),(.fn (.func 68) [] []),(.vec 8 (L) (t1)),(.val (.int .i64 ((↑(List.length L):Int)))),(.val (.int .i64 (IntKind.wrap IntKind.i64 ((↑j:Int)+(1:Int)))))] ⟨[(.cells [(.val (.int .u32 (a))),(.val (.int .i64 (n))),(.val (.int .i64 (AtV.o x))),(.vec 1 (iV (AtV.p x)) .none),(.val (.int .u32 (AtV.h x))),(.val (.int .i64 (AtV.m x))),(.val (.bool (AtV.hm x))),(.val (.bool (g)))]),(.cells [(.val (.int .u32 (a2))),(.val (.int .i64 (n2))),(.val (.int .i64 (AtV.o y))),(.vec 1 (iV (AtV.p y)) .none),(.val (.int .u32 (AtV.h y))),(.val (.int .i64 (AtV.m y))),(.val (.bool (AtV.hm y))),(.val (.bool (h)))])], []⟩ [] 32))))
 else Q (.exit 0) [(.val (.bool false)),(.vec 8 (M) (t2)),(.fn (.func 68) [] []),(.vec 8 (L) (t1)),(.val (.int .i64 ((↑(List.length L):Int)))),(.val (.int .i64 ((↑j:Int))))] ⟨[], []⟩ [] 32):=by kernel_rfl
theorem HH (a n a2 n2:Int) (x y:AtV) (g h ok:Bool) (Q:TV→VT→Prop):aq Try.prog ae (ax [(mO,zq ok)]) (aG [(999998, .dead,none)]) 300 az 0 nY [.agg (fA a n x g), .agg (fA a2 n2 y h)] ⟨[], []⟩ Q=
 (bif aT BinOp.eql (an ((fun vs=>Value.agg (List.toArray vs)) ((fun x=>Value.int IntKind.u32 a::x) ((fun x=>Value.int IntKind.i64 n::x) []))) ((fun vs=>Value.agg (List.toArray vs)) ((fun x=>Value.int IntKind.u32 a2::x) ((fun x=>Value.int IntKind.i64 n2::x) []))))
 then (bif aT BinOp.eql (an (Value.bool g) (Value.bool h))
 then (BM [(.val (.int .i64 (AtV.o x))),(.vec 1 (iV (AtV.p x)) .none),(.val (.int .u32 (AtV.h x))),(.val (.int .i64 (AtV.m x))),(.val (.bool (AtV.hm x)))] [(.val (.int .i64 (AtV.o y))),(.vec 1 (iV (AtV.p y)) .none),(.val (.int .u32 (AtV.h y))),(.val (.int .i64 (AtV.m y))),(.val (.bool (AtV.hm y)))] (ok)∧
 Q (.val (.bool (ok))) ⟨[(.cells [(.val (.int .u32 (a))),(.val (.int .i64 (n))),(.val (.int .i64 (AtV.o x))),(.vec 1 (iV (AtV.p x)) .none),(.val (.int .u32 (AtV.h x))),(.val (.int .i64 (AtV.m x))),(.val (.bool (AtV.hm x))),(.val (.bool (g)))]),(.cells [(.val (.int .u32 (a2))),(.val (.int .i64 (n2))),(.val (.int .i64 (AtV.o y))),(.vec 1 (iV (AtV.p y)) .none),(.val (.int .u32 (AtV.h y))),(.val (.int .i64 (AtV.m y))),(.val (.bool (AtV.hm y))),(.val (.bool (h)))])], []⟩)
 else Q (.val (.bool false)) ⟨[(.cells [(.val (.int .u32 (a))),(.val (.int .i64 (n))),(.val (.int .i64 (AtV.o x))),(.vec 1 (iV (AtV.p x)) .none),(.val (.int .u32 (AtV.h x))),(.val (.int .i64 (AtV.m x))),(.val (.bool (AtV.hm x))),(.val (.bool (g)))]),(.cells [(.val (.int .u32 (a2))),(.val (.int .i64 (n2))),(.val (.int .i64 (AtV.o y))),(.vec 1 (iV (AtV.p y)) .none),(.val (.int .u32 (AtV.h y))),(.val (.int .i64 (AtV.m y))),(.val (.bool (AtV.hm y))),(.val (.bool (h)))])], []⟩)
 else Q (.val (.bool false)) ⟨[(.cells [(.val (.int .u32 (a))),(.val (.int .i64 (n))),(.val (.int .i64 (AtV.o x))),(.vec 1 (iV (AtV.p x)) .none),(.val (.int .u32 (AtV.h x))),(.val (.int .i64 (AtV.m x))),(.val (.bool (AtV.hm x))),(.val (.bool (g)))]),(.cells [(.val (.int .u32 (a2))),(.val (.int .i64 (n2))),(.val (.int .i64 (AtV.o y))),(.vec 1 (iV (AtV.p y)) .none),(.val (.int .u32 (AtV.h y))),(.val (.int .i64 (AtV.m y))),(.val (.bool (AtV.hm y))),(.val (.bool (h)))])], []⟩):=by kernel_rfl
theorem HI (w n b:Bs) (x:AtV) (ok:Bool) (Q:TV→VT→Prop):aq Try.prog ae (ax [(CI,zU ok),(Ia,Ga b)]) (aG [(999998, .dead,none)]) 300 az 0 v8 [.agg (un w x n)] ⟨[], []⟩ Q=
 (B5 [(.vec 2 (w) .none),(.val (.int .i64 (AtV.o x))),(.vec 1 (iV (AtV.p x)) .none),(.val (.int .u32 (AtV.h x))),(.val (.int .i64 (AtV.m x))),(.val (.bool (AtV.hm x))),(.vec 2 (n) .none)] (ok)∧
 (bif !ok
 then Q (.val (.int .i64 0)) ⟨[(.cells [(.vec 2 (w) .none),(.val (.int .i64 (AtV.o x))),(.vec 1 (iV (AtV.p x)) .none),(.val (.int .u32 (AtV.h x))),(.val (.int .i64 (AtV.m x))),(.val (.bool (AtV.hm x))),(.vec 2 (n) .none)])], []⟩
 else (F2 [(.vec 2 (w) .none),(.val (.int .i64 (AtV.o x))),(.vec 1 (iV (AtV.p x)) .none),(.val (.int .u32 (AtV.h x))),(.val (.int .i64 (AtV.m x))),(.val (.bool (AtV.hm x))),(.vec 2 (n) .none)] (b)∧
 Q (.val (.int .i64 ((↑(List.length b):Int)))) ⟨[(.cells [(.vec 2 (w) .none),(.val (.int .i64 (AtV.o x))),(.vec 1 (iV (AtV.p x)) .none),(.val (.int .u32 (AtV.h x))),(.val (.int .i64 (AtV.m x))),(.val (.bool (AtV.hm x))),(.vec 2 (n) .none)])], []⟩))):=by kernel_rfl
theorem HJ (w n:Bs) (x:AtV) (Q:TV→VT→Prop):aq Try.prog ae aS (aG [(999998, .dead,none)]) 300 az 0 zM [.agg (un w x n)] ⟨[], []⟩ Q=
Q (.val (.bool (aT BinOp.eql (an (Value.int IntKind.i64 (IntKind.wrap IntKind.i64 ((↑(List.length w):Int)+(↑(List.length n):Int)))) (Value.int IntKind.i64 (0:Int)))))) ⟨[(.cells [(.vec 2 (w) .none),(.val (.int .i64 (AtV.o x))),(.vec 1 (iV (AtV.p x)) .none),(.val (.int .u32 (AtV.h x))),(.val (.int .i64 (AtV.m x))),(.val (.bool (AtV.hm x))),(.vec 2 (n) .none)])], []⟩:=by kernel_rfl
theorem HL (L:Bs) (tk:Tok) (n:Int) (b:Bool) (Q:TV→VT→Prop):aq Try.prog ae aS (aG [(999998, .dead,none)]) 300 (IG L tk n b (am Try.prog ik 0)) 0 ik [.vec 8 L tk, .val (.int .i64 60)] ⟨[], []⟩ Q=
 (bif decide ((↑(List.length L):Int)>(60:Int))
 then Q (.val (.bool false)) ⟨[], []⟩
 else ((am Try.prog ik (0:Nat)=am Try.prog ik (0:Nat))∧
 (((@Eq (Option Nat) .none .none)∧
 ((@Eq (Nat) 0 0)∧
 ((@Eq (List Nat) [] [])∧
 (True  ∧
 ((@Eq (VT) ⟨[], []⟩ ⟨[], []⟩)∧
 ((@Eq (Bool) true true)∧
 (@Eq (List TV) [(.val (.bool false)),(.val (.int .i64 0)),(.vec 8 (L) (tk)),(.val (.int .i64 ((↑(List.length L):Int)))),(.val (.int .i64 0))] [(.val (.bool false)),(.val (.int .i64 0)),(.vec 8 (L) (tk)),(.val (.int .i64 ((↑(List.length L):Int)))),(.val (.int .i64 0))])))))))∧
 (bif b
 then Q (.val (.bool true)) ⟨[], []⟩
 else (∀cc:Int,(∀jj:Int,(∀oo:List VO,Q (.val (.bool false)) ⟨(oo), []⟩))))))):=by kernel_rfl
theorem Gi (L:Bs) (tk:Tok) (Q:TV→VT→Prop):aq Try.prog ae aS (aG [(999998, .dead,none)]) 300 (CP (am Try.prog ik 0)) 0 ik [.vec 8 L tk, .val (.int .i64 60)] ⟨[], []⟩ Q=
 (bif decide ((↑(List.length L):Int)>(60:Int))
 then Q (.val (.bool false)) ⟨[], []⟩
 else ((am Try.prog ik (0:Nat)=am Try.prog ik (0:Nat))∧
 False)):=by kernel_rfl
theorem Ae (L:Bs) (tk:Tok) (a n c:Int) (x:AtV) (g:Bool) (j:Nat) (Q:Exit→List TV→VT→List Nat→Nat→Prop):vx Try.prog ae aS (aG [(999998, .dead,none),(16, .elt (fA a n x g),none)]) 300 az none 0 (bQ Try.prog ik 0) (ak 27 pW (kL L tk c j)) ⟨[], []⟩ [] (ct pW Q)=
 (bif decide ((↑j:Int)<(↑(List.length L):Int))
 then (aW Try.prog (fun _=> .none) (.indexAddr 48 (.tmp 12) (.tmp 14)) [(12,(.vec 8 (L) (tk))),(14,(.val (.int .i64 ((↑j:Int)))))] (.elt [(.val (.int .u32 (a))),(.val (.int .i64 (n))),(.val (.int .i64 (AtV.o x))),(.vec 1 (iV (AtV.p x)) .none),(.val (.int .u32 (AtV.h x))),(.val (.int .i64 (AtV.m x))),(.val (.bool (AtV.hm x))),(.val (.bool (g)))])∧
 (bif decide (IntKind.wrap IntKind.i64 (c+(↑(List.length (iV (AtV.p x))):Int))>(3000:Int))
 then Q .ret [(.val (.bool false)),(.val (.int .i64 (IntKind.wrap IntKind.i64 (c+(↑(List.length (iV (AtV.p x))):Int))))),(.vec 8 (L) (tk)),(.val (.int .i64 ((↑(List.length L):Int)))),(.val (.int .i64 ((↑j:Int))))] ⟨[(.cells [(.val (.int .u32 (a))),(.val (.int .i64 (n))),(.val (.int .i64 (AtV.o x))),(.vec 1 (iV (AtV.p x)) .none),(.val (.int .u32 (AtV.h x))),(.val (.int .i64 (AtV.m x))),(.val (.bool (AtV.hm x))),(.val (.bool (g)))])], []⟩ [] 27
 else Q .normal [(.val (.bool false)),(.val (.int .i64 (IntKind.wrap IntKind.i64 (c+(↑(List.length (iV (AtV.p x))):Int))))),(.vec 8 (L) (tk)),(.val (.int .i64 ((↑(List.length L):Int)))),(.val (.int .i64 (IntKind.wrap IntKind.i64 ((↑j:Int)+(1:Int)))))] ⟨[(.cells [(.val (.int .u32 (a))),(.val (.int .i64 (n))),(.val (.int .i64 (AtV.o x))),(.vec 1 (iV (AtV.p x)) .none),(.val (.int .u32 (AtV.h x))),(.val (.int .i64 (AtV.m x))),(.val (.bool (AtV.hm x))),(.val (.bool (g)))])], []⟩ [] 27))
 else Q (.exit 0) [(.val (.bool false)),(.val (.int .i64 (c))),(.vec 8 (L) (tk)),(.val (.int .i64 ((↑(List.length L):Int)))),(.val (.int .i64 ((↑j:Int))))] ⟨[], []⟩ [] 27):=by kernel_rfl
theorem HM (u:Bs) (x:AtV) (p q:List TV) (Q:TV→VT→Prop):aq Try.prog ae (ax [(kK,wd [un [] x [p,q]])]) (aG [(999998, .dead,none)]) 300 az 0 wb [] ⟨[], []⟩ Q=
 (xH [[(.val (.int .u32 16777216)),(.val (.int .i64 8)),(.val (.int .i64 0)),(.val (.slice .none 0 0)),(.val (.int .u32 9)),(.val (.int .i64 0)),(.val (.bool false)),(.val (.bool false))], [(.val (.int .u32 33554432)),(.val (.int .i64 8)),(.val (.int .i64 0)),(.val (.slice .none 0 0)),(.val (.int .u32 9)),(.val (.int .i64 0)),(.val (.bool false)),(.val (.bool false))]] [[(.vec 2 [] .none),(.val (.int .i64 (AtV.o x))),(.vec 1 (iV (AtV.p x)) .none),(.val (.int .u32 (AtV.h x))),(.val (.int .i64 (AtV.m x))),(.val (.bool (AtV.hm x))),(.vec 2 [(p),(q)] .none)]]∧
 Q (.val (.bool true)) ⟨[(.cells [(.val (.int .i64 0)),(.val (.slice .none 0 0)),(.val (.int .u32 9)),(.val (.int .i64 0)),(.val (.bool false))])], []⟩):=by kernel_rfl
theorem HN (L u l2:Bs) (tk:Tok) (R:Bs→Bs) (b b2 s:Bool) (Q:TV→VT→Prop):aq Try.prog ae (ax [(ik,zS b),(wb,zT),(kK,wd u),(dO,zO l2),(dF,wc R),(v7,zQ b2)]) (aG [(999998, .dead,none)]) 300 (II L tk u s (am Try.prog lX 0)) 0 lX [.vec 8 L tk] ⟨[], []⟩ Q=
 (B4 (L) (b)∧
 (bif !b
 then Q (.val (.bool true)) ⟨[], []⟩
 else (xH (L) (u)∧
 ((am Try.prog lX (0:Nat)=am Try.prog lX (0:Nat))∧
 (((@Eq (Option Nat) .none .none)∧
 ((@Eq (Nat) 0 0)∧
 ((@Eq (List Nat) [] [])∧
 (True  ∧
 ((@Eq (VT) ⟨[], []⟩ ⟨[], []⟩)∧
 ((@Eq (Bool) true true)∧
 (@Eq (List TV) [(.vec 8 (L) (tk)),(.vec 7 (u) .none),(.val (.bool false)),(.vec 7 (u) .none),(.val (.int .i64 ((↑(List.length u):Int)))),(.val (.int .i64 0))] [(.vec 8 (L) (tk)),(.vec 7 (u) .none),(.val (.bool false)),(.vec 7 (u) .none),(.val (.int .i64 ((↑(List.length u):Int)))),(.val (.int .i64 0))])))))))∧
 (B3 (u) (l2)∧
 (ue (l2)∧
 (ue (L)∧
 (xI (R l2) (R L) (b2)∧
 (bif b2
 then (B3 (u) (l2)∧
 (ue (L)∧
 (bif aT BinOp.eql (an (Value.int IntKind.i64 (↑(List.length l2):Int)) (Value.int IntKind.i64 (↑(List.length (R L)):Int)))
 then Q (.val (.bool true)) ⟨[], []⟩
 else Q (.val (.bool false)) ⟨[], []⟩)))
 else Q (.val (.bool false)) ⟨[], []⟩)))))))))):=by kernel_rfl
theorem Gj (L u l2:Bs) (tk:Tok) (R:Bs→Bs) (b b2:Bool) (Q:TV→VT→Prop):aq Try.prog ae (ax [(ik,zS b),(wb,zT),(kK,wd u),(dO,zO l2),(dF,wc R),(v7,zQ b2)]) (aG [(999998, .dead,none)]) 300 (CP (am Try.prog lX 0)) 0 lX [.vec 8 L tk] ⟨[], []⟩ Q=
 (B4 (L) (b)∧
 (bif !b
 then Q (.val (.bool true)) ⟨[], []⟩
 else (xH (L) (u)∧
 ((am Try.prog lX (0:Nat)=am Try.prog lX (0:Nat))∧
 False)))):=by kernel_rfl
theorem Af (L u w n:Bs) (tk:Tok) (x:AtV) (s g e:Bool) (z:Int) (j:Nat) (Q:Exit→List TV→VT→List Nat→Nat→Prop):vx Try.prog ae (ax [(CI,zU g),(zM,CN e),(v8,zV z)]) (aG [(999998, .dead,none),(17, .elt (un w x n),none)]) 300 az none 0 (bQ Try.prog lX 0) (ak 72 ur (l3 L tk u s j)) ⟨[], []⟩ [] (ct ur Q)=
 (bif decide ((↑j:Int)<(↑(List.length u):Int))
 then (aW Try.prog (fun _=> .none) (.indexAddr 60 (.tmp 13) (.tmp 15)) [(13,(.vec 7 (u) .none)),(15,(.val (.int .i64 ((↑j:Int)))))] (.elt [(.vec 2 (w) .none),(.val (.int .i64 (AtV.o x))),(.vec 1 (iV (AtV.p x)) .none),(.val (.int .u32 (AtV.h x))),(.val (.int .i64 (AtV.m x))),(.val (.bool (AtV.hm x))),(.vec 2 (n) .none)])∧
 (B5 [(.vec 2 (w) .none),(.val (.int .i64 (AtV.o x))),(.vec 1 (iV (AtV.p x)) .none),(.val (.int .u32 (AtV.h x))),(.val (.int .i64 (AtV.m x))),(.val (.bool (AtV.hm x))),(.vec 2 (n) .none)] (g)∧
 (bif !g
 then Q .ret [(.vec 8 (L) (tk)),(.vec 7 (u) .none),(.val (.bool (s))),(.vec 7 (u) .none),(.val (.int .i64 ((↑(List.length u):Int)))),(.val (.int .i64 ((↑j:Int))))] ⟨[(.cells [(.vec 2 (w) .none),(.val (.int .i64 (AtV.o x))),(.vec 1 (iV (AtV.p x)) .none),(.val (.int .u32 (AtV.h x))),(.val (.int .i64 (AtV.m x))),(.val (.bool (AtV.hm x))),(.vec 2 (n) .none)])], []⟩ [] 72
 else (F3 [(.vec 2 (w) .none),(.val (.int .i64 (AtV.o x))),(.vec 1 (iV (AtV.p x)) .none),(.val (.int .u32 (AtV.h x))),(.val (.int .i64 (AtV.m x))),(.val (.bool (AtV.hm x))),(.vec 2 (n) .none)] (e)∧
 (bif e
 then Q .ret [(.vec 8 (L) (tk)),(.vec 7 (u) .none),(.val (.bool (s))),(.vec 7 (u) .none),(.val (.int .i64 ((↑(List.length u):Int)))),(.val (.int .i64 ((↑j:Int))))] ⟨[(.cells [(.vec 2 (w) .none),(.val (.int .i64 (AtV.o x))),(.vec 1 (iV (AtV.p x)) .none),(.val (.int .u32 (AtV.h x))),(.val (.int .i64 (AtV.m x))),(.val (.bool (AtV.hm x))),(.vec 2 (n) .none)])], []⟩ [] 72
 else (B6 [(.vec 2 (w) .none),(.val (.int .i64 (AtV.o x))),(.vec 1 (iV (AtV.p x)) .none),(.val (.int .u32 (AtV.h x))),(.val (.int .i64 (AtV.m x))),(.val (.bool (AtV.hm x))),(.vec 2 (n) .none)] (z)∧
 (bif decide (z>(4077:Int))
 then Q .ret [(.vec 8 (L) (tk)),(.vec 7 (u) .none),(.val (.bool (s))),(.vec 7 (u) .none),(.val (.int .i64 ((↑(List.length u):Int)))),(.val (.int .i64 ((↑j:Int))))] ⟨[(.cells [(.vec 2 (w) .none),(.val (.int .i64 (AtV.o x))),(.vec 1 (iV (AtV.p x)) .none),(.val (.int .u32 (AtV.h x))),(.val (.int .i64 (AtV.m x))),(.val (.bool (AtV.hm x))),(.vec 2 (n) .none)])], []⟩ [] 72
 else (bif decide ((↑(List.length w):Int)>(0:Int))
 then (bif decide ((↑(List.length n):Int)>(0:Int))
 then Q .ret [(.vec 8 (L) (tk)),(.vec 7 (u) .none),(.val (.bool (s))),(.vec 7 (u) .none),(.val (.int .i64 ((↑(List.length u):Int)))),(.val (.int .i64 ((↑j:Int))))] ⟨[(.cells [(.vec 2 (w) .none),(.val (.int .i64 (AtV.o x))),(.vec 1 (iV (AtV.p x)) .none),(.val (.int .u32 (AtV.h x))),(.val (.int .i64 (AtV.m x))),(.val (.bool (AtV.hm x))),(.vec 2 (n) .none)])], []⟩ [] 72
 else (bif s
 then Q .ret [(.vec 8 (L) (tk)),(.vec 7 (u) .none),(.val (.bool (s))),(.vec 7 (u) .none),(.val (.int .i64 ((↑(List.length u):Int)))),(.val (.int .i64 ((↑j:Int))))] ⟨[(.cells [(.vec 2 (w) .none),(.val (.int .i64 (AtV.o x))),(.vec 1 (iV (AtV.p x)) .none),(.val (.int .u32 (AtV.h x))),(.val (.int .i64 (AtV.m x))),(.val (.bool (AtV.hm x))),(.vec 2 (n) .none)])], []⟩ [] 72
 else (bif s
 then Q .normal [(.vec 8 (L) (tk)),(.vec 7 (u) .none),(.val (.bool true)),(.vec 7 (u) .none),(.val (.int .i64 ((↑(List.length u):Int)))),(.val (.int .i64 (IntKind.wrap IntKind.i64 ((↑j:Int)+(1:Int)))))] ⟨[(.cells [(.vec 2 (w) .none),(.val (.int .i64 (AtV.o x))),(.vec 1 (iV (AtV.p x)) .none),(.val (.int .u32 (AtV.h x))),(.val (.int .i64 (AtV.m x))),(.val (.bool (AtV.hm x))),(.vec 2 (n) .none)])], []⟩ [] 72
 else Q .normal [(.vec 8 (L) (tk)),(.vec 7 (u) .none),(.val (.bool (decide ((↑(List.length n):Int)>(0:Int))))),(.vec 7 (u) .none),(.val (.int .i64 ((↑(List.length u):Int)))),(.val (.int .i64 (IntKind.wrap IntKind.i64 ((↑j:Int)+(1:Int)))))] ⟨[(.cells [(.vec 2 (w) .none),(.val (.int .i64 (AtV.o x))),(.vec 1 (iV (AtV.p x)) .none),(.val (.int .u32 (AtV.h x))),(.val (.int .i64 (AtV.m x))),(.val (.bool (AtV.hm x))),(.vec 2 (n) .none)])], []⟩ [] 72)))
 else (bif s
 then Q .normal [(.vec 8 (L) (tk)),(.vec 7 (u) .none),(.val (.bool true)),(.vec 7 (u) .none),(.val (.int .i64 ((↑(List.length u):Int)))),(.val (.int .i64 (IntKind.wrap IntKind.i64 ((↑j:Int)+(1:Int)))))] ⟨[(.cells [(.vec 2 (w) .none),(.val (.int .i64 (AtV.o x))),(.vec 1 (iV (AtV.p x)) .none),(.val (.int .u32 (AtV.h x))),(.val (.int .i64 (AtV.m x))),(.val (.bool (AtV.hm x))),(.vec 2 (n) .none)])], []⟩ [] 72
 else Q .normal [(.vec 8 (L) (tk)),(.vec 7 (u) .none),(.val (.bool (decide ((↑(List.length n):Int)>(0:Int))))),(.vec 7 (u) .none),(.val (.int .i64 ((↑(List.length u):Int)))),(.val (.int .i64 (IntKind.wrap IntKind.i64 ((↑j:Int)+(1:Int)))))] ⟨[(.cells [(.vec 2 (w) .none),(.val (.int .i64 (AtV.o x))),(.vec 1 (iV (AtV.p x)) .none),(.val (.int .u32 (AtV.h x))),(.val (.int .i64 (AtV.m x))),(.val (.bool (AtV.hm x))),(.vec 2 (n) .none)])], []⟩ [] 72)))))))))
 else Q (.exit 0) [(.vec 8 (L) (tk)),(.vec 7 (u) .none),(.val (.bool (s))),(.vec 7 (u) .none),(.val (.int .i64 ((↑(List.length u):Int)))),(.val (.int .i64 ((↑j:Int))))] ⟨[], []⟩ [] 72):=by kernel_rfl
end
section
open Go.RowKit
set_option maxRecDepth 100000

theorem cD (cs:List Ch):(cs.map aj).length=cs.length:=List.length_map _
theorem ny {cs:List Ch} {j:Nat} {c:Ch} {tok:Tok} (x i:Nat) (hne:Nat.beq x i=false) (hp:cs[j]?=some c):aW Try.prog ae (.indexAddr 48 (.tmp x) (.tmp i)) [(x, .vec 8 (cs.map aj) tok),(i, .val (.int .i64 (j:Int)))] (.elt (aj c)):=
 nW.ix hne (by simp [hp])
theorem ut {c:Ch} {cs:List Ch} {tok:Tok} (x:Nat):aW Try.prog ae (.indexAddr 48 (.tmp x) (.const (.int .i64 0))) [(x, .vec 8 ((c::cs).map aj) tok)] (.elt (aj c)):=nW.ix0 rfl
theorem pX {objs:List VO} {tl:mI} {k:Nat} {A:Bs} {c:Ch} (s x:Nat) (hk:tl[k]?=some (A.length,8,true)) (hne:Nat.beq s x=false) (hl:A.length≤10000000):aZ Try.prog ae 0 ⟨objs,tl⟩ (.call ⟨.builtin .append, #[.tmp s, .tmp x], #[48,48]⟩) [(s, .vec 8 A (.tail k A.length)),(x, .vec 8 [aj c] .full)] (.vec 8 (A++ [aj c]) (.tail k (A.length+1))) ⟨objs,tl.set k (A.length+1,8,true)⟩:=
 nW.app (T:=⟨objs,tl⟩) hk hne (by simp only [List.length_cons,List.length_nil];omega)
theorem cF {α:Type} {cs:List α} {j:Nat} {c:α} (h:cs[j]?=some c):cs.take (j+1)=cs.take j++ [c]:=by rw [List.take_add_one,h];rfl
theorem pY {cs:List Ch} {j:Nat} {c:Ch} (h:cs[j]?=some c) {f:Ch→Bool} (hf:f c=true):((cs.take (j+1)).filter f).map aj=((cs.take j).filter f).map aj++ [aj c]:=by
 rw [cF h,List.filter_append,List.map_append];simp [hf]
theorem pZ {cs:List Ch} {j:Nat} {c:Ch} (h:cs[j]?=some c) {f:Ch→Bool} (hf:f c=false):((cs.take (j+1)).filter f).map aj=((cs.take j).filter f).map aj:=by
 rw [cF h,List.filter_append,List.map_append];simp [hf]
theorem lG (cs:List Ch) (f:Ch→Bool):((cs.filter f).map aj).length≤cs.length:=by
 rw [List.length_map];exact List.length_filter_le _ _
theorem D6 (c:Ch):VCx Try.prog ae 0 ui [.agg (aj c)] ⟨[], []⟩ fun x T' =>x= .val (.bool c.2.2)∧T' =⟨[], []⟩:=
 VCx.keepQ 0 0 (Nat.le_refl _) (Nat.le_refl _) (ai ac aa ah ag (Gb c.1.1 c.1.2 c.2.1 c.2.2 _) ⟨rfl,rfl⟩)
theorem D7 (b:Bool):∀ro ys T K,xJ b ro ys T K→VCx Try.prog ae ro ui ys T K:=by
 intro ro ys T K h
 unfold xJ at h
 split at h
 ·obtain ⟨⟨c,rfl,rfl⟩,hk⟩:=h
  exact VCx.liftPure ap (D6 c) (by simp only [av,TV.ren,kI]) (fun _ _=>rfl) hk
 ·exact h.elim
theorem Gk (ok:Bool):aY Try.prog ae (ax [(mO,zq ok)]):=aA fun p hp=>by obtain rfl:=List.mem_singleton.1 hp;exact FA ok
theorem kM (a:AtV) (f g:Nat→Option Nat):av f g a.cells=a.cells:=by simp only [AtV.cells,av,TV.ren,dL,Tok.ren]
theorem D8 (c:Ch) (y:AtV) (h1:c.2.1.p.length≤9223372036854775807) (h2:y.p.length≤9223372036854775807):VCx Try.prog ae 0 uj [.agg (aj c), .ptr 0 0] ⟨[.cells y.cells], []⟩ fun x T' =>x= .val (.bool (decide (c.2.1=y)))∧T' =⟨[.cells y.cells], []⟩:=by
 refine VCx.keepQ 1 0 (Nat.le_refl _) (Nat.le_refl _) (ai ac aa (Gk _) ag (Gc c.1.1 c.1.2 c.2.1 y c.2.2 (decide (c.2.1=y)) _) ⟨?_,rfl, ?_⟩)
 ·exact ⟨c.2.1,y,⟨rfl,rfl⟩,⟨h1,h2⟩,rfl⟩
 ·show VT.keep ⟨.cells y.cells::_, []⟩ 1 0=_
  simp only [VT.keep,List.take_succ_cons,List.take_zero,List.map_cons,List.map_nil,VO.ren,kM]
theorem D9 (y:AtV) (b:Bool):∀ro ys T K,xK y.cells b ro ys T K→VCx Try.prog ae ro uj ys T K:=by
 intro ro ys T K h
 unfold xK at h
 split at h
 ·obtain ⟨⟨hro,ho,a,c,ha,rfl,h1,h2,rfl⟩,hk⟩:=h
  rename_i l i
  rw [ha] at ho
  refine VCx.atKeep (R:=fun x=>x= .val (.bool (decide (c.2.1=a)))) (ys1:= [.agg (aj c), .ptr 0 0]) ap (Nat.le_of_ble_eq_true hro) ho rfl (fun f g=>by simp only [VO.ren,kM]) ?_ (D8 c a h2 h1) (fun x hx=>by subst hx;exact ⟨fun _ _=>rfl,hk⟩)
  refine ⟨.of_eq (by simp only [TV.ren,kI]), .of_eq ?_,trivial⟩
  simp [TV.ren,bb]
 ·exact h.elim
theorem CQ (b:Bool):aY Try.prog ae (ax [(ui,xJ b)]):=aA fun p hp=>by obtain rfl:=List.mem_singleton.1 hp;exact D7 b
theorem CR (y:AtV) (b:Bool):aY Try.prog ae (ax [(uj,xK y.cells b)]):=aA fun p hp=>by obtain rfl:=List.mem_singleton.1 hp;exact D9 y b

section

theorem B7 {cs:List Ch} (hl:cs.length≤1000000) (K:KX) (hK:K .normal (ak 30 jR (dG jP (cs.map aj) .none ((cs.filter (fun c=>c.2.2)).map aj) ((cs.filter (fun c=> !c.2.2)).map aj) ((cs.map aj).length:Nat))) (fU [] ((cs.filter (fun c=>c.2.2)).map aj).length ((cs.filter (fun c=> !c.2.2)).map aj).length) []):
    VWx Try.prog ae none 0 (am Try.prog fB 0) (ak 30 jR (dG jP (cs.map aj) .none [] [] 0)) (fU [] 0 0) [] K:=by
  have hlen:=cD cs
  refine cH (f:=fB) (id:=0) (by kernel_rfl) 30 jR (fun j:Nat=>cs.length-j) (fun j:Nat=>dG jP (cs.map aj) .none (((cs.take j).filter (fun c=>c.2.2)).map aj) (((cs.take j).filter (fun c=> !c.2.2)).map aj) (j:Int)) (fun j=>fU [] (((cs.take j).filter (fun c=>c.2.2)).map aj).length (((cs.take j).filter (fun c=> !c.2.2)).map aj).length) (fun j=>j≤cs.length) 0 2 (fun j _=>⟨Nat.le_refl _,Nat.le_refl _⟩)
    (fun e vs T=>e= .normal∧vs=dG jP (cs.map aj) .none ((cs.filter (fun c=>c.2.2)).map aj) ((cs.filter (fun c=> !c.2.2)).map aj) ((cs.map aj).length:Nat)∧T=fU [] ((cs.filter (fun c=>c.2.2)).map aj).length ((cs.filter (fun c=> !c.2.2)).map aj).length) (fun j hj=> ?_) 0 (Nat.zero_le _) K ?_
  rotate_left
  · rintro e vs T ⟨rfl,rfl,rfl⟩
    exact hK
  have hA:=lG (cs.take j) (fun c=>c.2.2)
  have hB:=lG (cs.take j) (fun c=> !c.2.2)
  rw [List.length_take] at hA hB
  show VWx _ _ _ _ _ (ak 30 jR (dG jP (cs.map aj) .none (((cs.take j).filter (fun c=>c.2.2)).map aj) (((cs.take j).filter (fun c=> !c.2.2)).map aj) (j:Int))) (fU [] (((cs.take j).filter (fun c=>c.2.2)).map aj).length (((cs.take j).filter (fun c=> !c.2.2)).map aj).length) _ _
  generalize eA:((cs.take j).filter (fun c=>c.2.2)).map aj=A at hA
  generalize eB:((cs.take j).filter (fun c=> !c.2.2)).map aj=B at hB
  by_cases hlt:j<cs.length
  · have hr:=List.getElem?_eq_getElem hlt
    have hm:cs[j]∈cs:=List.getElem_mem hlt
    generalize cs[j]=c at hr hm
    refine bh ac aa (CQ _) ag (zW (cs.map aj) A B (A++ [aj c]) (B++ [aj c]) .none c.1.1 c.1.2 c.2.1 c.2.2 (c.2.2) j (A.length+1) (B.length+1) [(A.length+1,8,true),(B.length,8,true)] [(A.length,8,true),(B.length+1,8,true)] _) ?_
    refine be (decide_eq_true (by rw [hlen];omega)) ⟨ny 10 12 rfl hr,⟨c,rfl,rfl⟩, ?_⟩
    rw [eC (by omega)]
    have hend:∀(A' B' :Bs) (o:List VO),((cs.take (j+1)).filter (fun c=>c.2.2)).map aj=A' →((cs.take (j+1)).filter (fun c=> !c.2.2)).map aj=B' →pC 30 0 (fun j:Nat=>cs.length-j) (fun j:Nat=>dG jP (cs.map aj) .none (((cs.take j).filter (fun c=>c.2.2)).map aj) (((cs.take j).filter (fun c=> !c.2.2)).map aj) (j:Int)) (fun j=>fU [] (((cs.take j).filter (fun c=>c.2.2)).map aj).length (((cs.take j).filter (fun c=> !c.2.2)).map aj).length) (fun j=>j≤cs.length) 0 2 j
        (fun e vs T=>e= .normal∧vs=dG jP (cs.map aj) .none ((cs.filter (fun c=>c.2.2)).map aj) ((cs.filter (fun c=> !c.2.2)).map aj) ((cs.map aj).length:Nat)∧T=fU [] ((cs.filter (fun c=>c.2.2)).map aj).length ((cs.filter (fun c=> !c.2.2)).map aj).length)
        .normal (dG jP (cs.map aj) .none A' B' ((j+1:Nat):Int)) ⟨[]++o, [(A'.length,8,true),(B'.length,8,true)]⟩ [] 30:=fun A' B' o h1 h2=>by
      subst h1 h2
      refine ⟨rfl,rfl,j+1,hlt,by show cs.length-(j+1)<cs.length-j;omega, .inr ⟨?_, ?_⟩⟩
      · simp only [VT.keep,fU,List.cons_append,List.nil_append,List.take_succ_cons,List.take_zero,List.map_cons,List.map_nil,VO.ren,kM]
      · simp only [dG,av,TV.ren,bc,Tok.ren];rfl
    refine bp (fun hf=> ?_) (fun hf=> ?_)
    · have e1:=pY hr (f:=(fun c=>c.2.2)) hf
      have e2:=pZ hr (f:=(fun c=> !c.2.2)) (by rw [hf];rfl)
      rw [eA] at e1;rw [eB] at e2
      refine ⟨pX 19 21 rfl rfl (by omega), ?_⟩
      have:=hend (A++ [aj c]) B [.cells (aj c)] e1 e2
      rw [show (A++ [aj c]).length=A.length+1 by simp] at this
      unfold dG at this
      rw [show (A++ [aj c]).length=A.length+1 by simp] at this
      exact this
    · have e1:=pZ hr (f:=(fun c=>c.2.2)) hf
      have e2:=pY hr (f:=(fun c=> !c.2.2)) (by rw [hf];rfl)
      rw [eA] at e1;rw [eB] at e2
      refine ⟨pX 23 25 rfl rfl (by omega), ?_⟩
      have:=hend A (B++ [aj c]) [.cells (aj c)] e1 e2
      rw [show (B++ [aj c]).length=B.length+1 by simp] at this
      unfold dG at this
      rw [show (B++ [aj c]).length=B.length+1 by simp] at this
      exact this
  · obtain rfl:j=cs.length:=by omega
    rw [List.take_length] at eA eB
    rw [eA,eB]
    refine bh ac aa (CQ true) ag (zW (cs.map aj) A B [] [] .none 0 0 bS true true cs.length 0 0 [] [] _) (aI (decide_eq_false (by rw [hlen];omega)) ?_)
    exact ⟨rfl,rfl,rfl,by simp only [dG,hlen];rfl,rfl⟩
theorem Ea {cs:List Ch} (hl:cs.length≤1000000):VCx Try.prog ae 0 fB [.vec 8 (cs.map aj) .none,jP] ⟨[], []⟩ fun x T' =>x= .tup [.vec 8 ((cs.filter (fun c=>c.2.2)).map aj) .none, .vec 8 ((cs.filter (fun c=> !c.2.2)).map aj) .none]∧T' =⟨[], []⟩:=by
 refine VCx.toLe (Q:=fun T' =>T' =⟨[], []⟩) (VCx.keepQ 0 0 (Nat.le_refl _) (Nat.le_refl _) (ai ac aa ah (bf fun p hp=> ?_) (Ge (cs.map aj) ((cs.filter (fun c=>c.2.2)).map aj) ((cs.filter (fun c=> !c.2.2)).map aj) .none _) ⟨rfl,⟨rfl,rfl,rfl,⟨rfl,rfl,trivial⟩,rfl,rfl,rfl⟩, ?_, ?_⟩))
 ·obtain rfl:=List.mem_singleton.1 hp
  exact bq (B7 hl)
 ·simp only [TV.ren,av,bc]
  exact .tup ⟨.vec 8 _ _, .vec 8 _ _,trivial⟩
 ·rfl
end

section
variable {y:AtV}
theorem B8 {cs:List Ch} (hl:cs.length≤1000000) (hy:y.p.length≤9223372036854775807) (hpl:∀c∈cs,c.2.1.p.length≤9223372036854775807) (K:KX) (hK:K .normal (ak 30 jR (dG jQ (cs.map aj) .none ((cs.filter (fun c=>decide (c.2.1=y))).map aj) ((cs.filter (fun c=> !decide (c.2.1=y))).map aj) ((cs.map aj).length:Nat))) (fU [.cells y.cells] ((cs.filter (fun c=>decide (c.2.1=y))).map aj).length ((cs.filter (fun c=> !decide (c.2.1=y))).map aj).length) []):
    VWx Try.prog ae none 0 (am Try.prog fB 0) (ak 30 jR (dG jQ (cs.map aj) .none [] [] 0)) (fU [.cells y.cells] 0 0) [] K:=by
  have hlen:=cD cs
  refine cH (f:=fB) (id:=0) (by kernel_rfl) 30 jR (fun j:Nat=>cs.length-j) (fun j:Nat=>dG jQ (cs.map aj) .none (((cs.take j).filter (fun c=>decide (c.2.1=y))).map aj) (((cs.take j).filter (fun c=> !decide (c.2.1=y))).map aj) (j:Int)) (fun j=>fU [.cells y.cells] (((cs.take j).filter (fun c=>decide (c.2.1=y))).map aj).length (((cs.take j).filter (fun c=> !decide (c.2.1=y))).map aj).length) (fun j=>j≤cs.length) 1 2 (fun j _=>⟨Nat.le_refl _,Nat.le_refl _⟩)
    (fun e vs T=>e= .normal∧vs=dG jQ (cs.map aj) .none ((cs.filter (fun c=>decide (c.2.1=y))).map aj) ((cs.filter (fun c=> !decide (c.2.1=y))).map aj) ((cs.map aj).length:Nat)∧T=fU [.cells y.cells] ((cs.filter (fun c=>decide (c.2.1=y))).map aj).length ((cs.filter (fun c=> !decide (c.2.1=y))).map aj).length) (fun j hj=> ?_) 0 (Nat.zero_le _) K ?_
  rotate_left
  · rintro e vs T ⟨rfl,rfl,rfl⟩
    exact hK
  have hA:=lG (cs.take j) (fun c=>decide (c.2.1=y))
  have hB:=lG (cs.take j) (fun c=> !decide (c.2.1=y))
  rw [List.length_take] at hA hB
  show VWx _ _ _ _ _ (ak 30 jR (dG jQ (cs.map aj) .none (((cs.take j).filter (fun c=>decide (c.2.1=y))).map aj) (((cs.take j).filter (fun c=> !decide (c.2.1=y))).map aj) (j:Int))) (fU [.cells y.cells] (((cs.take j).filter (fun c=>decide (c.2.1=y))).map aj).length (((cs.take j).filter (fun c=> !decide (c.2.1=y))).map aj).length) _ _
  generalize eA:((cs.take j).filter (fun c=>decide (c.2.1=y))).map aj=A at hA
  generalize eB:((cs.take j).filter (fun c=> !decide (c.2.1=y))).map aj=B at hB
  by_cases hlt:j<cs.length
  · have hr:=List.getElem?_eq_getElem hlt
    have hm:cs[j]∈cs:=List.getElem_mem hlt
    generalize cs[j]=c at hr hm
    refine bh ac aa (CR y _) ag (zX y (cs.map aj) A B (A++ [aj c]) (B++ [aj c]) .none c.1.1 c.1.2 c.2.1 c.2.2 (decide (c.2.1=y)) j (A.length+1) (B.length+1) [(A.length+1,8,true),(B.length,8,true)] [(A.length,8,true),(B.length+1,8,true)] _) ?_
    refine be (decide_eq_true (by rw [hlen];omega)) ⟨ny 10 12 rfl hr,⟨rfl,rfl,y,c,rfl,rfl,hy,hpl c hm,rfl⟩, ?_⟩
    rw [eC (by omega)]
    have hend:∀(A' B' :Bs) (o:List VO),((cs.take (j+1)).filter (fun c=>decide (c.2.1=y))).map aj=A' →((cs.take (j+1)).filter (fun c=> !decide (c.2.1=y))).map aj=B' →pC 30 0 (fun j:Nat=>cs.length-j) (fun j:Nat=>dG jQ (cs.map aj) .none (((cs.take j).filter (fun c=>decide (c.2.1=y))).map aj) (((cs.take j).filter (fun c=> !decide (c.2.1=y))).map aj) (j:Int)) (fun j=>fU [.cells y.cells] (((cs.take j).filter (fun c=>decide (c.2.1=y))).map aj).length (((cs.take j).filter (fun c=> !decide (c.2.1=y))).map aj).length) (fun j=>j≤cs.length) 1 2 j
        (fun e vs T=>e= .normal∧vs=dG jQ (cs.map aj) .none ((cs.filter (fun c=>decide (c.2.1=y))).map aj) ((cs.filter (fun c=> !decide (c.2.1=y))).map aj) ((cs.map aj).length:Nat)∧T=fU [.cells y.cells] ((cs.filter (fun c=>decide (c.2.1=y))).map aj).length ((cs.filter (fun c=> !decide (c.2.1=y))).map aj).length)
        .normal (dG jQ (cs.map aj) .none A' B' ((j+1:Nat):Int)) ⟨[.cells y.cells]++o, [(A'.length,8,true),(B'.length,8,true)]⟩ [] 30:=fun A' B' o h1 h2=>by
      subst h1 h2
      refine ⟨rfl,rfl,j+1,hlt,by show cs.length-(j+1)<cs.length-j;omega, .inr ⟨?_, ?_⟩⟩
      · simp only [VT.keep,fU,List.cons_append,List.nil_append,List.take_succ_cons,List.take_zero,List.map_cons,List.map_nil,VO.ren,kM]
      · simp only [dG,av,TV.ren,bc,Tok.ren];rfl
    refine bp (fun hf=> ?_) (fun hf=> ?_)
    · have e1:=pY hr (f:=(fun c=>decide (c.2.1=y))) hf
      have e2:=pZ hr (f:=(fun c=> !decide (c.2.1=y))) (by rw [hf];rfl)
      rw [eA] at e1;rw [eB] at e2
      refine ⟨pX 19 21 rfl rfl (by omega), ?_⟩
      have:=hend (A++ [aj c]) B [.cells (aj c)] e1 e2
      rw [show (A++ [aj c]).length=A.length+1 by simp] at this
      unfold dG at this
      rw [show (A++ [aj c]).length=A.length+1 by simp] at this
      exact this
    · have e1:=pZ hr (f:=(fun c=>decide (c.2.1=y))) hf
      have e2:=pY hr (f:=(fun c=> !decide (c.2.1=y))) (by rw [hf];rfl)
      rw [eA] at e1;rw [eB] at e2
      refine ⟨pX 23 25 rfl rfl (by omega), ?_⟩
      have:=hend A (B++ [aj c]) [.cells (aj c)] e1 e2
      rw [show (B++ [aj c]).length=B.length+1 by simp] at this
      unfold dG at this
      rw [show (B++ [aj c]).length=B.length+1 by simp] at this
      exact this
  · obtain rfl:j=cs.length:=by omega
    rw [List.take_length] at eA eB
    rw [eA,eB]
    refine bh ac aa (CR y true) ag (zX y (cs.map aj) A B [] [] .none 0 0 bS true true cs.length 0 0 [] [] _) (aI (decide_eq_false (by rw [hlen];omega)) ?_)
    exact ⟨rfl,rfl,rfl,by simp only [dG,hlen];rfl,rfl⟩
theorem Eb {cs:List Ch} (hl:cs.length≤1000000) (hy:y.p.length≤9223372036854775807) (hpl:∀c∈cs,c.2.1.p.length≤9223372036854775807):VCx Try.prog ae 0 fB [.vec 8 (cs.map aj) .none,jQ] ⟨[.cells y.cells], []⟩ fun x T' =>x= .tup [.vec 8 ((cs.filter (fun c=>decide (c.2.1=y))).map aj) .none, .vec 8 ((cs.filter (fun c=> !decide (c.2.1=y))).map aj) .none]∧T' =⟨[.cells y.cells], []⟩:=by
 refine VCx.toLe (Q:=fun T' =>T' =⟨[.cells y.cells], []⟩) (VCx.keepQ 1 0 (Nat.le_refl _) (Nat.le_refl _) (ai ac aa ah (bf fun p hp=> ?_) (Gf y (cs.map aj) ((cs.filter (fun c=>decide (c.2.1=y))).map aj) ((cs.filter (fun c=> !decide (c.2.1=y))).map aj) .none _) ⟨rfl,⟨rfl,rfl,rfl,⟨rfl,rfl,trivial⟩,rfl,rfl,rfl⟩, ?_, ?_⟩))
 ·obtain rfl:=List.mem_singleton.1 hp
  exact bq (B8 hl hy hpl)
 ·simp only [TV.ren,av,bc]
  exact .tup ⟨.vec 8 _ _, .vec 8 _ _,trivial⟩
 ·show VT.keep ⟨[.cells y.cells],_⟩ 1 0=_
  simp only [VT.keep,List.take_succ_cons,List.take_zero,List.map_cons,List.map_nil,VO.ren,kM]
end

theorem Gl (a b:Bs):∀ro ys T K,F7 a b ro ys T K→VCx Try.prog ae ro fB ys T K:=by
 intro ro ys T K h
 unfold F7 at h
 split at h
 ·obtain ⟨⟨rfl,cs,rfl,hl,rfl,rfl⟩,hk⟩:=h
  refine VCx.argsLe (xs:= [.vec 8 (cs.map aj) .none,jP]) ⟨.vec 8 _ _, .refl _,trivial⟩ ?_
  exact VCx.liftPure ap (Ea hl) (by simp only [jP,av,TV.ren,bc,Tok.ren]) (fun _ _=>by simp only [TV.ren,av,bc,Tok.ren]) hk
 ·exact h.elim
theorem Gm (y:AtV) (a b:Bs):∀ro ys T K,CL y a b ro ys T K→VCx Try.prog ae ro fB ys T K:=by
 intro ro ys T K h
 unfold CL at h
 split at h
 ·rename_i l tok f i
  obtain ⟨⟨rfl,hro,ho,cs,rfl,hc,hy,rfl,rfl⟩,hk⟩:=h
  have hl:=hc.few
  refine VCx.atKeep (R:=fun x=>x=_) (ys1:= [.vec 8 (cs.map aj) .none,jQ]) ap (Nat.le_of_ble_eq_true hro) ho rfl (fun f g=>by simp only [VO.ren,kM]) ?_ (Eb (by omega) hy fun c h=>(hc.at' c h).1) (fun x hx=>by subst hx;exact ⟨fun _ _=>by simp only [TV.ren,av,bc,Tok.ren],hk⟩)
  refine ⟨?_, .of_eq ?_,trivial⟩
  ·simp only [TV.ren,bc]
   exact .vec 8 _ _
  ·simp [TV.ren,av,bb,jQ]
 ·exact h.elim
theorem Ic:RowI Try.prog 42 29 2:=⟨Try.underlying42,⟨(Try.prog.info? 29).getD default,((Try.prog.info? 29).getD default).zero.getD default,by kernel_rfl,by kernel_rfl,Nat.le_of_ble_eq_true (by kernel_rfl),by kernel_rfl,by kernel_rfl⟩,by omega⟩
theorem Ec {cs:List Ch} (hl:cs.length≤1000000) (K:KX) (hK:K .normal (ak 19 uo (nZ (cs.map aj) .none (au (cs.map (·.1))) ((cs.map aj).length:Nat))) (rH (au (cs.map (·.1))).length) []):
    VWx Try.prog ae none 0 (am Try.prog nX 0) (ak 19 uo (nZ (cs.map aj) .none [] 0)) (rH 0) [] K:=by
  have hlen:=cD cs
  refine cH (f:=nX) (id:=0) (by kernel_rfl) 19 uo (fun j:Nat=>cs.length-j) (fun j:Nat=>nZ (cs.map aj) .none (au ((cs.take j).map (·.1))) (j:Int)) (fun j=>rH (au ((cs.take j).map (·.1))).length) (fun j=>j≤cs.length) 0 1 (fun j _=>⟨Nat.le_refl _,Nat.le_refl _⟩)
    (fun e vs T=>e= .normal∧vs=nZ (cs.map aj) .none (au (cs.map (·.1))) ((cs.map aj).length:Nat)∧T=rH (au (cs.map (·.1))).length) (fun j hj=> ?_) 0 (Nat.zero_le _) K ?_
  rotate_left
  · rintro e vs T ⟨rfl,rfl,rfl⟩
    exact hK
  by_cases hlt:j<cs.length
  · have hr:=List.getElem?_eq_getElem hlt
    generalize cs[j]=c at hr
    have e1:au ((cs.take (j+1)).map (·.1))=au ((cs.take j).map (·.1))++ [cE c.1]:=by
      rw [cF hr,List.map_append,←qJ];rfl
    have hA:(au ((cs.take j).map (·.1))).length≤j:=by rw [bv,List.length_map,List.length_take];omega
    generalize eA:au ((cs.take j).map (·.1))=A at e1 hA
    refine bh ac aa ah ag (zY (cs.map aj) A (A++ [cE c.1]) .none c.1.1 c.1.2 c.2.1 c.2.2 j (A.length+1) [(A.length+1,2,true)] _) ?_
    refine be (decide_eq_true (by rw [hlen];omega)) ⟨ny 6 8 rfl hr, ?_, ?_⟩
    · exact Ic.app (T:=⟨_, [(A.length,2,true)]⟩) (k:=0) (bn:=true) (es:=A) (es2:= [cE c.1]) rfl rfl (by simp only [List.length_cons,List.length_nil];omega)
    · rw [eC (by omega)]
      refine ⟨rfl,rfl,j+1,hlt,by show cs.length-(j+1)<cs.length-j;omega, .inr ⟨?_, ?_⟩⟩
      · show _=rH (au ((cs.take (j+1)).map (·.1))).length
        rw [e1,show (A++ [cE c.1]).length=A.length+1 by simp];rfl
      · show _=nZ _ _ (au ((cs.take (j+1)).map (·.1))) _
        have h2:bu (aw 0) (aw 1) (A++ [cE c.1])=A++ [cE c.1]:=by rw [←e1,cM]
        rw [e1]
        simp only [nZ,av,TV.ren,bc,Tok.ren,h2,show (A++ [cE c.1]).length=A.length+1 by simp];rfl
  · obtain rfl:j=cs.length:=by omega
    refine bh ac aa ah ag (zY (cs.map aj) (au ((cs.take cs.length).map fun c:Ch=>c.1)) [] .none 0 0 bS true cs.length 0 [] _) (aI (decide_eq_false (by rw [hlen];omega)) ?_)
    rw [List.take_length]
    exact ⟨rfl,rfl,rfl,by simp only [nZ,hlen],rfl⟩
theorem Gn {cs:List Ch} (hl:cs.length≤1000000):VCx Try.prog ae 0 nX [.vec 8 (cs.map aj) .none] ⟨[], []⟩ fun x T' =>x= .vec 2 (au (cs.map (·.1))) .none∧T' =⟨[], []⟩:=by
 refine VCx.toLe (Q:=fun T' =>T' =⟨[], []⟩) (VCx.keepQ 0 0 (Nat.le_refl _) (Nat.le_refl _) (ai ac aa ah (bf fun p hp=> ?_) (Hw (cs.map aj) (au (cs.map (·.1))) .none _) ⟨rfl,⟨rfl,rfl,rfl,⟨rfl,trivial⟩,rfl,rfl,rfl⟩, ?_,rfl⟩))
 ·obtain rfl:=List.mem_singleton.1 hp
  exact bq (Ec hl)
 ·simp only [TV.ren,cM]
  exact .vec 2 _ _
theorem Gp (l:Bs):∀ro ys T K,F5 l ro ys T K→VCx Try.prog ae ro nX ys T K:=by
 intro ro ys T K h
 unfold F5 at h
 split at h
 ·obtain ⟨⟨cs,rfl,hl,rfl⟩,hk⟩:=h
  exact VCx.loosePure ap (Gn hl) (by simp [bH]) (by simp only [av,TV.ren,bc,Tok.ren]) (fun _ _=>by simp only [TV.ren,cM,Tok.ren]) hk
 ·exact h.elim
theorem jr (u:UpV) (f g:Nat→Option Nat):av f g u.cells=u.cells:=by
 simp only [UpV.cells,av,TV.ren,cM,dL,Tok.ren]
theorem Gq {cs:List Ch} (hl:cs.length≤1000000) (hne:cs≠ []):VCx Try.prog ae 0 uf [.vec 8 (cs.map aj) .none] ⟨[], []⟩ fun x T' =>x= .agg (bJ cs).cells∧T' =⟨[], []⟩:=by
 refine VCx.toLe (Q:=fun T' =>T' =⟨[], []⟩) (VCx.keepQ 0 0 (Nat.le_refl _) (Nat.le_refl _) ?_)
 cases cs with
 | nil=>exact absurd rfl hne
 | cons c cs=>
  refine ai ac aa (aA fun p hp=>by obtain rfl:=List.mem_singleton.1 hp;exact Gp _) ag (Hx ((c::cs).map aj) (au ((c::cs).map (·.1))) .none c.1.1 c.1.2 c.2.1 c.2.2 _) ⟨ut 3, ?_⟩
  have hof:bJ (c::cs)=bif c.2.2 then ⟨(c::cs).map (·.1),bS, []⟩ else ⟨[],c.2.1,(c::cs).map (·.1)⟩:=rfl
  refine bp (fun hg=> ?_) (fun hg=> ?_)
  ·rw [hg,cond_true] at hof
   refine ⟨⟨c::cs,rfl,hl,rfl⟩, ?_,rfl⟩
   rw [hof]
   simp only [TV.ren,av,cM]
   exact .agg ⟨.vec 2 _ _, .refl _, .nil 1, .refl _, .refl _, .refl _, .nil 2,trivial⟩
  ·rw [hg,cond_false] at hof
   refine ⟨ut 10,⟨c::cs,rfl,hl,rfl⟩,⟨rfl,trivial⟩, ?_,rfl⟩
   rw [hof]
   simp only [TV.ren,av,cM,dL]
   exact .agg ⟨.nil 2, .refl _, .vec 1 _ _, .refl _, .refl _, .refl _, .vec 2 _ _,trivial⟩
theorem Ag (w:Bs) (x:AtV) (n:Bs):∀ro ys T K,zN w x n ro ys T K→VCx Try.prog ae ro uf ys T K:=by
 intro ro ys T K h
 unfold zN at h
 split at h
 ·obtain ⟨⟨cs,rfl,hne,hl,rfl,rfl,rfl⟩,hk⟩:=h
  exact VCx.loosePure ap (Gq hl hne) (by simp [bH]) (by simp only [av,TV.ren,bc,Tok.ren]) (fun _ _=>by simp only [TV.ren,jr]) hk
 ·exact h.elim
end
section
open Go.RowKit
set_option maxRecDepth 100000

theorem Ah (b:Bool):∀ro ys T K,zU b ro ys T K→VCx Try.prog ae ro CI ys T K:=by
 intro ro ys T K h
 unfold zU at h
 split at h
 ·obtain ⟨⟨u,rfl,hu,rfl⟩,hk⟩:=h
  exact VCx.liftPure ap (FD hu) (by simp only [av,TV.ren,jr]) (fun _ _=>rfl) hk
 ·exact h.elim
theorem Gs (b:Bs):∀ro ys T K,Ga b ro ys T K→VCx Try.prog ae ro Ia ys T K:=by
 intro ro ys T K h
 unfold Ga at h
 split at h
 ·obtain ⟨⟨u,rfl,hu,hg,rfl⟩,hk⟩:=h
  exact VCx.liftPure ap (FF hu hg) (by simp only [av,TV.ren,jr]) (fun _ _=>by simp only [TV.ren,(zE hu hg).ren,Tok.ren]) hk
 ·exact h.elim
theorem Gt {u:UpV} (hu:fj u):VCx Try.prog ae 0 v8 [.agg u.cells] ⟨[], []⟩ fun x T' =>x= .val (.int .i64 (gj u))∧T' =⟨[], []⟩:=by
  refine VCx.keepQ 0 0 (Nat.le_refl _) (Nat.le_refl _) (ai ac aa (aA fun p hp=> ?_) ag (HI (au u.w) (au u.n) (nU u) u.a (fS u) _) ⟨⟨u,rfl,hu,rfl⟩, ?_⟩)
  · rcases List.mem_cons.1 hp with rfl | hp;exact Ah _
    obtain rfl:=List.mem_singleton.1 hp;exact Gs _
  · unfold gj
    cases hg:fS u with
    | false=>exact ⟨rfl,rfl⟩
    | true=>exact ⟨⟨u,rfl,hu,hg,rfl⟩,rfl,rfl⟩
theorem Ai (z:Int):∀ro ys T K,zV z ro ys T K→VCx Try.prog ae ro v8 ys T K:=by
 intro ro ys T K h
 unfold zV at h
 split at h
 ·obtain ⟨⟨u,rfl,hu,rfl⟩,hk⟩:=h
  exact VCx.liftPure ap (Gt hu) (by simp only [av,TV.ren,jr]) (fun _ _=>rfl) hk
 ·exact h.elim
theorem Gu {u:UpV} (hu:fj u):VCx Try.prog ae 0 zM [.agg u.cells] ⟨[], []⟩ fun x T' =>x= .val (.bool (u.w.isEmpty&&u.n.isEmpty))∧T' =⟨[], []⟩:=by
 refine VCx.keepQ 0 0 (Nat.le_refl _) (Nat.le_refl _) (ai ac aa ah ag (HJ (au u.w) (au u.n) u.a _) ⟨?_,rfl⟩)
 rw [rq,bv,bv,fg (by have:=hu.1;have:=hu.2.1;omega) (by have:=hu.1;have:=hu.2.1;omega)]
 cases hw:u.w with
 | nil=>
  cases hn:u.n with
  | nil=>rfl
  | cons a l=>simp only [List.length_nil,List.length_cons,List.isEmpty_nil,List.isEmpty_cons,Bool.true_and,TV.ren];rw [decide_eq_false (by omega)]
 | cons a l=>simp only [List.length_cons,List.isEmpty_cons,Bool.false_and,TV.ren];rw [decide_eq_false (by omega)]
theorem Gv (b:Bool):∀ro ys T K,CN b ro ys T K→VCx Try.prog ae ro zM ys T K:=by
 intro ro ys T K h
 unfold CN at h
 split at h
 ·obtain ⟨⟨u,rfl,hu,rfl⟩,hk⟩:=h
  exact VCx.liftPure ap (Gu hu) (by simp only [av,TV.ren,jr]) (fun _ _=>rfl) hk
 ·exact h.elim
theorem Aj {cs:List Ch} (h:CsOk cs):fj (bJ cs):=by
 cases cs with
 | nil=>exact ⟨by simp [bJ],by simp [bJ],by simp [bJ,bS],by simp [bJ,bS],by simp [bJ,bS]⟩
 | cons c cs=>
  have h1:=h.few
  have h2:=h.at' c List.mem_cons_self
  have hof:bJ (c::cs)=bif c.2.2 then ⟨(c::cs).map (·.1),bS, []⟩ else ⟨[],c.2.1,(c::cs).map (·.1)⟩:=rfl
  have hl:((c::cs).map fun c:Ch=>c.1).length≤50000:=by rw [List.length_map];exact h1
  rw [hof]
  cases c.2.2 with
  | true=>exact ⟨hl,Nat.zero_le _,Nat.zero_le _,Int.le_refl 0,(by decide:(0:Int)<4294967296)⟩
  | false=>exact ⟨Nat.zero_le _,hl,h2.1,h2.2.1,h2.2.2⟩
theorem Ak (f g:Nat→Option Nat):VO.ren f g jO=jO:=rfl
theorem Gw {cs:List Ch} (h:CsOk cs) (hne:cs≠ []):VCx Try.prog ae 0 ug [.vec 8 (cs.map aj) .none, .ptr 0 0] ⟨[jO], []⟩ fun x T' =>x= .val (.bool (bL cs))∧T' =⟨[jO], []⟩:=by
 have h1:=h.few
 refine VCx.keepQ 1 0 (Nat.le_refl _) (Nat.le_refl _) (ai ac aa (aA fun p hp=> ?_) ag (Hy (cs.map aj) (au (bJ cs).w) (au (bJ cs).n) .none (bJ cs).a (gj (bJ cs)) _) ⟨⟨cs,rfl,hne,by omega,rfl,rfl,rfl⟩,⟨bJ cs,rfl,Aj h,rfl⟩,rfl,rfl⟩)
 rcases List.mem_cons.1 hp with rfl | hp;exact Ag _ _ _
 obtain rfl:=List.mem_singleton.1 hp;exact Ai _
theorem Gx (b:Bool):∀ro ys T K,CJ b ro ys T K→VCx Try.prog ae ro ug ys T K:=by
 intro ro ys T K h
 unfold CJ at h
 split at h
 ·rename_i l tok i
  obtain ⟨⟨hro,ho,cs,rfl,hne,hc,rfl⟩,hk⟩:=h
  refine VCx.atKeep (R:=fun x=>x= .val (.bool (bL cs))) (ys1:= [.vec 8 (cs.map aj) .none, .ptr 0 0]) ap (Nat.le_of_ble_eq_true hro) ho rfl Ak ?_ (Gw hc hne) (fun x hx=>by subst hx;exact ⟨fun _ _=>rfl,hk⟩)
  refine ⟨?_, .of_eq ?_,trivial⟩
  ·simp only [TV.ren,bc]
   exact .vec 8 _ _
  ·simp [TV.ren,bb]
 ·exact h.elim
theorem qN (may:List Ch→Bool) (l:List Ch):∀f n,n≤jp may l f n∧(n≤l.length→jp may l f n≤l.length)
 | 0,n=>⟨Nat.le_refl _,fun h=>h⟩
 | f+1,n=>by
  unfold jp
  cases hb:decide (n<l.length)&&may (l.take (n+1)) with
  | false=>exact ⟨Nat.le_refl _,fun h=>h⟩
  | true=>
   simp only [Bool.and_eq_true,decide_eq_true_eq] at hb
   have:=qN may l f (n+1)
   exact ⟨Nat.le_trans (Nat.le_succ n) this.1,fun h=>this.2 hb.1⟩
theorem lH (may:List Ch→Bool) (l:List Ch):1≤b7 may l:=(qN may l _ _).1
theorem Ed {may:List Ch→Bool} {l:List Ch} (h:l≠ []):b7 may l≤l.length:=(qN may l _ _).2 (List.length_pos_iff.2 h)
theorem iw (may:List Ch→Bool) (f:Nat):dk may f []= []:=by cases f<;>rfl
theorem od (may:List Ch→Bool):∀(f g:Nat) (l:List Ch),l.length≤f→l.length≤g→dk may f l=dk may g l
 | 0,g,l,h,_=>by
  obtain rfl:l= []:=List.eq_nil_of_length_eq_zero (by omega)
  rw [iw,iw]
 | f+1,0,l,_,h=>by
  obtain rfl:l= []:=List.eq_nil_of_length_eq_zero (by omega)
  rw [iw,iw]
 | f+1,g+1, [],_,_=>rfl
 | f+1,g+1,c::l,h1,h2=>by
  have h3:=lH may (c::l)
  have h4:((c::l).drop (b7 may (c::l))).length≤l.length:=by rw [List.length_drop,List.length_cons];omega
  simp only [List.length_cons] at h1 h2
  show _::dk may f _=_::dk may g _
  rw [od may f g _ (by omega) (by omega)]
theorem u3 {l:List Ch} (h:l≠ []):aC l=l.take (b7 bL l)::aC (l.drop (b7 bL l)):=by
 cases l with
 | nil=>exact absurd rfl h
 | cons c l=>
  have h3:=lH bL (c::l)
  have h4:((c::l).drop (b7 bL (c::l))).length≤l.length:=by rw [List.length_drop,List.length_cons];omega
  unfold aC
  rw [←od bL l.length _ _ h4 (Nat.le_refl _)]
  rfl
theorem xL:aC []= []:=rfl
theorem CsOk.sub {cs ds:List Ch} (h:CsOk cs) (hl:ds.length≤cs.length) (hs:∀c∈ds,c∈cs):CsOk ds:=⟨Nat.le_trans hl h.few,fun c hc=>h.at' c (hs c hc)⟩
theorem CsOk.take {cs:List Ch} (h:CsOk cs) (n:Nat):CsOk (cs.take n):=h.sub (List.length_take_le' n cs) fun _ hc=>List.mem_of_mem_take hc
theorem CsOk.drop {cs:List Ch} (h:CsOk cs) (n:Nat):CsOk (cs.drop n):=h.sub (by rw [List.length_drop];omega) fun _ hc=>List.mem_of_mem_drop hc
theorem oe (cs:List Ch) (n:Nat):(cs.map aj).take n=(cs.take n).map aj:=List.map_take.symm
theorem u4 (cs:List Ch) (n:Nat):(cs.map aj).drop n=(cs.drop n).map aj:=List.map_drop.symm
theorem Gy (b:Bool):aY Try.prog ae (ax [(ug,CJ b)]):=aA fun p hp=>by obtain rfl:=List.mem_singleton.1 hp;exact Gx b
theorem Ee {l:List Ch} (h:CsOk l) (hne:l≠ []) (o:Bs) (K:KX) (hK:K .normal (ak 35 n7 (mX (l.map aj) .none o (b7 bL l:Nat))) (gk o.length) []):
    VWx Try.prog ae none 0 (am Try.prog gt 2) (ak 35 n7 (mX (l.map aj) .none o 1)) (gk o.length) [] K:=by
  have hlen:=cD l
  have hf:=h.few
  refine cH (f:=gt) (id:=2) (by kernel_rfl) 35 n7 (fun k:Nat=>l.length-k) (fun k:Nat=>mX (l.map aj) .none o (k:Int)) (fun _=>gk o.length) (fun k=>1≤k∧k≤l.length∧jp bL l (l.length+1-k) k=b7 bL l) 1 1 (fun j _=>⟨Nat.le_refl _,Nat.le_refl _⟩)
    (fun e vs T=>e= .normal∧vs=mX (l.map aj) .none o (b7 bL l:Nat)∧T=gk o.length) (fun k ⟨h1,h2,h3⟩=> ?_) 1 ⟨Nat.le_refl _,List.length_pos_iff.2 hne,rfl⟩ K ?_
  rotate_left
  · rintro e vs T ⟨rfl,rfl,rfl⟩
    exact hK
  rw [show l.length+1-k=(l.length-k)+1 by omega] at h3
  unfold jp at h3
  refine bh ac aa (Gy (bL (l.take (k+1)))) ag (z6 (l.map aj) ((l.take (k+1)).map aj) o .none k (bL (l.take (k+1))) _) ?_
  by_cases hlt:k<l.length
  · rw [decide_eq_true hlt,Bool.true_and] at h3
    rw [eC (by omega)]
    refine be (decide_eq_true (by rw [hlen];omega)) ⟨?_,⟨rfl,rfl,l.take (k+1),rfl, ?_,h.take _,rfl⟩, ?_⟩
    · have:=nW.hi (G:=ae) (es:=l.map aj) (tok:= .none) (x:=16) (i:=18) (j:=k+1) rfl (by omega)
      rw [oe] at this
      exact this
    · intro e
      have:=congrArg List.length e
      rw [List.length_take,List.length_nil] at this
      omega
    · refine bp (fun hb=> ?_) (fun hb=> ?_)
      · rw [hb,cond_true] at h3
        exact ⟨rfl,rfl,k+1,⟨by omega,hlt,by rw [show l.length+1-(k+1)=l.length-k by omega];exact h3⟩,by show l.length-(k+1)<l.length-k;omega, .inl ⟨rfl,rfl⟩⟩
      · rw [hb,cond_false] at h3
        exact ⟨rfl,rfl,rfl,by rw [←h3];rfl,rfl⟩
  · rw [decide_eq_false hlt,Bool.false_and,cond_false] at h3
    refine aI (decide_eq_false (by rw [hlen];omega)) ?_
    exact ⟨rfl,rfl,rfl,by rw [←h3];rfl,rfl⟩
theorem B9 (o:Bs) (K:KX) (hK:K .normal (ak 35 n7 (mX [] .none o (b7 bL []:Nat))) (gk o.length) []):
    VWx Try.prog ae none 0 (am Try.prog gt 2) (ak 35 n7 (mX [] .none o 1)) (gk o.length) [] K:=by
  refine cH (f:=gt) (id:=2) (by kernel_rfl) 35 n7 (fun _:Unit=>0) (fun _=>mX [] .none o 1) (fun _=>gk o.length) (fun _=>True) 1 1 (fun j _=>⟨Nat.le_refl _,Nat.le_refl _⟩)
    (fun e vs T=>e= .normal∧vs=mX [] .none o (b7 bL []:Nat)∧T=gk o.length) (fun k _=> ?_) () trivial K ?_
  rotate_left
  · rintro e vs T ⟨rfl,rfl,rfl⟩
    exact hK
  exact bh ac aa (Gy true) ag (z6 [] [] o .none 1 true _) (aI rfl ⟨rfl,rfl,rfl,rfl,rfl⟩)
def cn (l:List Ch):List TV:= [.vec 8 (l.map aj) .none]
theorem Id:RowI Try.prog 133 48 1:=⟨Try.underlying133,⟨(Try.prog.info? 48).getD default,((Try.prog.info? 48).getD default).zero.getD default,by kernel_rfl,by kernel_rfl,Nat.le_of_ble_eq_true (by kernel_rfl),by kernel_rfl,by kernel_rfl⟩,by omega⟩
theorem Ef {cs:List Ch} (h:CsOk cs) (K:KX) (hK:K .normal (ak 35 up (pR [] .none ((aC cs).map cn))) (gk ((aC cs).map cn).length) []):
    VWx Try.prog ae none 0 (am Try.prog gt 0) (ak 35 up (pR (cs.map aj) .none [])) (gk 0) [] K:=by
  refine cH (f:=gt) (id:=0) (by kernel_rfl) 35 up (fun s:List (List Ch) × List Ch=>s.2.length) (fun s=>pR (s.2.map aj) .none (s.1.map cn)) (fun s=>gk (s.1.map cn).length) (fun s=>s.1++aC s.2=aC cs∧CsOk s.2∧s.1.length+s.2.length≤50000) 1 1 (fun j _=>⟨Nat.le_refl _,Nat.le_refl _⟩)
    (fun e vs T=>e= .normal∧vs=pR [] .none ((aC cs).map cn)∧T=gk ((aC cs).map cn).length) (fun s ⟨h1,h2,h3⟩=> ?_) ([],cs) ⟨rfl,h,by have:=h.few;simpa using this⟩ K ?_
  rotate_left
  · rintro e vs T ⟨rfl,rfl,rfl⟩
    exact hK
  obtain ⟨d,l⟩:=s
  simp only at h1 h2 h3
  have hlen:=cD l
  have hdl:(d.map cn).length=d.length:=List.length_map _
  by_cases hne:l= []
  · subst hne
    refine bh ac aa ah (bf fun p hp=> ?_) (zZ [] [] [] (d.map cn) [] .none (b7 bL []) 0 [] _) (aI rfl ?_)
    · obtain rfl:=List.mem_singleton.1 hp
      exact bq (B9 _)
    · rw [xL,List.append_nil] at h1
      rw [←h1]
      exact ⟨rfl,rfl,rfl,rfl,rfl⟩
  · have hpos:=List.length_pos_iff.2 hne
    have he:=lH bL l
    have he2:=Ed (may:=bL) hne
    have e2:(d++ [l.take (b7 bL l)]).map cn=d.map cn++ [cn (l.take (b7 bL l))]:=by rw [List.map_append];rfl
    have e3:((d++ [l.take (b7 bL l)]).map cn).length=(d.map cn).length+1:=by rw [e2];simp
    refine bh ac aa ah (bf fun p hp=> ?_) (zZ (l.map aj) ((l.drop (b7 bL l)).map aj) ((l.take (b7 bL l)).map aj) (d.map cn) ((d++ [l.take (b7 bL l)]).map cn) .none (b7 bL l) ((d.map cn).length+1) [((d.map cn).length+1,1,true)] _) (be (decide_eq_true (by rw [hlen];omega)) ⟨rfl,⟨rfl,rfl,rfl,trivial,rfl,rfl,rfl⟩, ?_, ?_, ?_, ?_⟩)
    · obtain rfl:=List.mem_singleton.1 hp
      exact bq (Ee h2 hne _)
    · have:=nW.hm (G:=ae) (es:=l.map aj) (tok:= .none) (x:=25) (i:=26) (k:=27) (j:=b7 bL l) rfl rfl rfl (by omega)
      rw [oe] at this
      exact this
    · have:=nW.lo (G:=ae) (es:=l.map aj) (tok:= .none) (x:=31) (i:=32) (j:=b7 bL l) rfl (by omega)
      rw [u4] at this
      exact this
    · have:=Id.app (G:=ae) (T:=⟨[jO], [((d.map cn).length,1,true)]⟩) (k:=0) (bn:=true) (es:=d.map cn) (es2:= [cn (l.take (b7 bL l))]) (tok:= .full) (s:=24) (x:=29) rfl rfl (by simp only [List.length_cons,List.length_nil];omega)
      rw [e2]
      exact this
    · refine ⟨rfl,rfl,(d++ [l.take (b7 bL l)],l.drop (b7 bL l)),⟨?_,h2.drop _, ?_⟩, ?_, .inl ⟨?_, ?_⟩⟩
      · rw [←h1,u3 hne];simp
      · simp only [List.length_append,List.length_cons,List.length_nil,List.length_drop];omega
      · show (l.drop (b7 bL l)).length<l.length
        rw [List.length_drop];omega
      · show _=gk ((d++ [l.take (b7 bL l)]).map cn).length
        rw [e3];rfl
      · show _=pR _ _ ((d++ [l.take (b7 bL l)]).map cn)
        unfold pR
        rw [e3];rfl
end
section
open Go.RowKit
set_option maxRecDepth 100000

theorem Gz {cs:List Ch} (h:CsOk cs):VCx Try.prog ae 0 gt [.vec 8 (cs.map aj) .none,we] ⟨[jO], []⟩ fun x T' =>x= .vec 1 ((aC cs).map cn) .none∧T' =⟨[jO], []⟩:=by
  refine VCx.toLe (Q:=fun T' =>T' =⟨[jO], []⟩) (VCx.keepQ 1 0 (Nat.le_refl _) (Nat.le_refl _) (ai ac aa ah (bf fun p hp=> ?_) (Hz (cs.map aj) ((aC cs).map cn) .none _) ⟨rfl,⟨rfl,rfl,rfl,⟨rfl,trivial⟩,rfl,rfl,rfl⟩, ?_,rfl⟩))
  · obtain rfl:=List.mem_singleton.1 hp
    exact bq (Ef h)
  · have:∀f g,bu f g ((aC cs).map cn)=(aC cs).map cn:=fun f g=>e6 cn (fun l=>by simp only [cn,av,TV.ren,bc,Tok.ren]) _
    simp only [TV.ren,this]
    exact .vec 1 _ _
theorem GA (f g:Nat→Option Nat) (l:List (List Ch)):bu f g (l.map cn)=l.map cn:=e6 cn (fun l=>by simp only [cn,av,TV.ren,bc,Tok.ren]) _
theorem GB (c:Bs):∀ro ys T K,F6 c ro ys T K→VCx Try.prog ae ro gt ys T K:=by
 intro ro ys T K h
 unfold F6 at h
 split at h
 ·rename_i l tok f i
  obtain ⟨⟨rfl,hro,ho,cs,rfl,hc,rfl⟩,hk⟩:=h
  refine VCx.atKeep (R:=fun x=>x=_) (ys1:= [.vec 8 (cs.map aj) .none,we]) ap (Nat.le_of_ble_eq_true hro) ho rfl Ak ?_ (Gz hc) (fun x hx=>by subst hx;exact ⟨fun _ _=>by simp only [TV.ren,GA,Tok.ren],hk⟩)
  refine ⟨?_, .of_eq ?_,trivial⟩
  ·simp only [TV.ren,bc]
   exact .vec 8 _ _
  ·simp [TV.ren,av,bb,we]
 ·exact h.elim
theorem rL (may:List Ch→Bool):∀(f:Nat) (l:List Ch),l.length≤f→(dk may f l).flatten=l∧(∀c∈dk may f l,c≠ [])∧(dk may f l).length≤l.length
  | 0,l,h=>by
    obtain rfl:l= []:=List.eq_nil_of_length_eq_zero (by omega)
    exact ⟨rfl,fun c h=>(by cases h),Nat.le_refl _⟩
  | f+1, [],_=>⟨rfl,fun c h=>(by cases h),Nat.le_refl _⟩
  | f+1,c::l,h=>by
    have h3:=lH may (c::l)
    have h4:((c::l).drop (b7 may (c::l))).length≤l.length:=by rw [List.length_drop,List.length_cons];omega
    simp only [List.length_cons] at h
    obtain ⟨i1,i2,i3⟩:=rL may f ((c::l).drop (b7 may (c::l))) (by omega)
    have e:dk may (f+1) (c::l)=(c::l).take (b7 may (c::l))::dk may f ((c::l).drop (b7 may (c::l))):=rfl
    rw [e]
    refine ⟨?_,fun d hd=> ?_, ?_⟩
    · rw [List.flatten_cons,i1,List.take_append_drop]
    · rcases List.mem_cons.1 hd with rfl | hd
      · intro e0
        have:=congrArg List.length e0
        rw [List.length_take,List.length_nil,List.length_cons] at this
        omega
      · exact i2 d hd
    · rw [List.length_cons,List.length_cons];omega
theorem fV (l:List Ch):(aC l).flatten=l∧(∀c∈aC l,c≠ [])∧(aC l).length≤l.length:=rL bL _ l (Nat.le_refl _)
theorem gl {l c:List Ch} (h:c∈aC l) {x:Ch} (hx:x∈c):x∈l:=by
 rw [←(fV l).1]
 exact List.mem_flatten.2 ⟨c,h,hx⟩
theorem p9 {l c:List Ch} (h:c∈aC l):c.length≤l.length:=by
 conv=>rhs;rw [←(fV l).1]
 exact (List.sublist_flatten_of_mem h).length_le
theorem lI (l:List Ch):(bA l).length≤l.length:=by unfold bA;rw [List.length_map];exact (fV l).2.2
theorem GC:RowI Try.prog 60 65 7:=⟨Try.underlying60,⟨(Try.prog.info? 65).getD default,((Try.prog.info? 65).getD default).zero.getD default,by kernel_rfl,by kernel_rfl,Nat.le_of_ble_eq_true (by kernel_rfl),by kernel_rfl,by kernel_rfl⟩,by omega⟩
theorem dl (f g:Nat→Option Nat) (us:List UpV):bu f g (us.map UpV.cells)=us.map UpV.cells:=e6 UpV.cells (fun u=>jr u f g) us
theorem GD (w:Bs) (x:AtV) (n:Bs):aY Try.prog ae (ax [(uf,zN w x n)]):=aA fun p hp=>by obtain rfl:=List.mem_singleton.1 hp;exact Ag w x n
theorem Eg {cs:List Ch} (h:CsOk cs) (K:KX) (hK:K .normal (ak 23 rI (mY ((aC cs).map cn) ((bA cs).map UpV.cells) (((aC cs).map cn).length:Nat))) (pS ((bA cs).map UpV.cells).length) []):
    VWx Try.prog ae none 0 (am Try.prog jM 0) (ak 23 rI (mY ((aC cs).map cn) [] 0)) (pS 0) [] K:=by
  have hf:=h.few
  obtain ⟨hfl,hnn,hcl⟩:=fV cs
  have hlen:((aC cs).map cn).length=(aC cs).length:=List.length_map _
  refine cH (f:=jM) (id:=0) (by kernel_rfl) 23 rI (fun j:Nat=>(aC cs).length-j) (fun j:Nat=>mY ((aC cs).map cn) ((((aC cs).take j).map bJ).map UpV.cells) (j:Int)) (fun j=>pS ((((aC cs).take j).map bJ).map UpV.cells).length) (fun j=>j≤(aC cs).length) 1 1 (fun j _=>⟨Nat.le_refl _,Nat.le_refl _⟩)
    (fun e vs T=>e= .normal∧vs=mY ((aC cs).map cn) ((bA cs).map UpV.cells) (((aC cs).map cn).length:Nat)∧T=pS ((bA cs).map UpV.cells).length) (fun j hj=> ?_) 0 (Nat.zero_le _) K ?_
  rotate_left
  · rintro e vs T ⟨rfl,rfl,rfl⟩
    exact hK
  by_cases hlt:j<(aC cs).length
  · have hr:=List.getElem?_eq_getElem hlt
    have hm:(aC cs)[j]∈aC cs:=List.getElem_mem hlt
    generalize (aC cs)[j]=c at hr hm
    have e1:(((aC cs).take (j+1)).map bJ).map UpV.cells=(((aC cs).take j).map bJ).map UpV.cells++ [(bJ c).cells]:=by
      rw [cF hr,List.map_append,List.map_append];rfl
    have hA:((((aC cs).take j).map bJ).map UpV.cells).length≤j:=by rw [List.length_map,List.length_map,List.length_take];omega
    show VWx _ _ _ _ _ (ak 23 rI (mY ((aC cs).map cn) ((((aC cs).take j).map bJ).map UpV.cells) (j:Int))) (pS ((((aC cs).take j).map bJ).map UpV.cells).length) _ _
    generalize eA:(((aC cs).take j).map bJ).map UpV.cells=A at e1 hA
    have hcl2:=p9 hm
    refine bh ac aa (GD _ _ _) ag (z7 ((aC cs).map cn) A (A++ [(bJ c).cells]) (c.map aj) (au (bJ c).w) (au (bJ c).n) (bJ c).a j (A.length+1) [(A.length+1,7,true)] _) ?_
    refine be (decide_eq_true (by rw [hlen];omega)) ⟨Id.ix rfl (by simp [hr];rfl),⟨c,rfl,hnn c hm,by omega,rfl,rfl,rfl⟩, ?_, ?_⟩
    · exact GC.app (T:=⟨_, [(A.length,7,true)]⟩) (k:=0) (bn:=true) (es:=A) (es2:= [(bJ c).cells]) rfl rfl (by simp only [List.length_cons,List.length_nil];omega)
    · rw [eC (by omega)]
      have e2:(A++ [(bJ c).cells]).length=A.length+1:=by simp
      refine ⟨rfl,rfl,j+1,hlt,by show (aC cs).length-(j+1)<(aC cs).length-j;omega, .inl ⟨?_, ?_⟩⟩
      · show _=pS ((((aC cs).take (j+1)).map bJ).map UpV.cells).length
        rw [e1,e2];rfl
      · show _=mY _ ((((aC cs).take (j+1)).map bJ).map UpV.cells) _
        rw [e1];unfold mY;rw [e2]
  · obtain rfl:j=(aC cs).length:=by omega
    have hu:(((aC cs).take (aC cs).length).map bJ).map UpV.cells=(bA cs).map UpV.cells:=by rw [List.take_length];rfl
    rw [hu]
    refine bh ac aa (GD _ _ _) ag (z7 ((aC cs).map cn) ((bA cs).map UpV.cells) [] [] [] [] bS (aC cs).length 0 [] _) (aI (decide_eq_false (by rw [hlen];omega)) ?_)
    exact ⟨rfl,rfl,rfl,by simp only [mY,hlen],rfl⟩
theorem Al {cs:List Ch} (h:CsOk cs):VCx Try.prog ae 0 jM [.vec 8 (cs.map aj) .none] ⟨[], []⟩ fun x T' =>x= .vec 7 ((bA cs).map UpV.cells) (.tail 0 ((bA cs).map UpV.cells).length)∧T' =⟨[], [(((bA cs).map UpV.cells).length,7,true)]⟩:=by
 refine VCx.keepQ 0 1 (Nat.le_refl _) (Nat.zero_le _) (ai ac aa (aA fun p hp=> ?_) (bf fun p hp=> ?_) (HA (cs.map aj) ((aC cs).map cn) ((bA cs).map UpV.cells) .none _) ⟨⟨rfl,rfl,rfl,cs,rfl,h,rfl⟩,rfl,⟨rfl,rfl,rfl,⟨rfl,trivial⟩,rfl,rfl,rfl⟩, ?_,rfl⟩)
 ·obtain rfl:=List.mem_singleton.1 hp;exact GB _
 ·obtain rfl:=List.mem_singleton.1 hp
  exact bq (Eg h)
 ·simp only [TV.ren,dl,Tok.ren];rfl
theorem GE (u:Bs):∀ro ys T K,F8 u ro ys T K→VCx Try.prog ae ro jM ys T K:=by
 intro ro ys T K h
 unfold F8 at h
 split at h
 ·obtain ⟨⟨rfl,cs,rfl,hc,rfl⟩,hk⟩:=h
  refine VCx.argsLe (xs:= [.vec 8 (cs.map aj) .none]) ⟨.vec 8 _ _,trivial⟩ ?_
  refine (VCx.lift (xs:= [.vec 8 (cs.map aj) .none]) (T:=T) [] [] ap List.nodup_nil List.nodup_nil (by simp) (by simp) (by simp) (by simp only [av,TV.ren,bc,Tok.ren]) (by rw [VT.give_nil];exact Al hc) (fun _ _ _=>⟨Nat.zero_le _,Nat.zero_le _⟩)).mono ?_
  rintro z T' ⟨x,T'',⟨rfl,rfl⟩,rfl,rfl⟩
  rw [VT.back_nil]
  simpa [TV.ren,Tok.ren,dl,aO] using hk
 ·exact h.elim
theorem GF (u:Bs):∀ro ys T K,CM u ro ys T K→VCx Try.prog ae ro jM ys T K:=by
 intro ro ys T K h
 unfold CM at h
 split at h
 ·obtain ⟨⟨cs,rfl,hc,rfl⟩,hk⟩:=h
  have hv:VCx Try.prog ae 0 jM [.vec 8 (cs.map aj) .none] ⟨[], []⟩ fun x T' =>x= .vec 7 ((bA cs).map UpV.cells) .none∧T' =⟨[], []⟩:=
   VCx.toLe (Q:=fun T' =>T' =⟨[], []⟩) (VCx.keepQ 0 0 (Nat.le_refl _) (Nat.le_refl _) ((Al hc).mono fun x T' ⟨h1,h2⟩=>by
    subst h1 h2
    refine ⟨?_,rfl⟩
    simp only [TV.ren,dl]
    exact .vec 7 _ _))
  exact VCx.loosePure ap hv (by simp [bH]) (by simp only [av,TV.ren,bc,Tok.ren]) (fun _ _=>by simp only [TV.ren,dl,Tok.ren]) hk
 ·exact h.elim
theorem dP (f:Nat):jL f []= []:=by cases f<;>rfl
theorem gM (c:Ch) (l:List Ch) (f:Ch→Bool) (hf:f c=true):((c::l).filter fun x=> !f x).length≤l.length∧((c::l).filter f).length+((c::l).filter fun x=> !f x).length=(c::l).length:=by
 have h1:((c::l).filter f).length+((c::l).filter fun x=> !f x).length=(c::l).length:=by
  have:∀m:List Ch,(m.filter f).length+(m.filter fun x=> !f x).length=m.length:=fun m=>by
   induction m with
   | nil=>rfl
   | cons a m ih=>
    rw [List.filter_cons,List.filter_cons]
    cases f a<;>simp<;>omega
  exact this _
 refine ⟨?_,h1⟩
 rw [List.filter_cons]
 simp only [hf,Bool.not_true,Bool.false_eq_true,if_false]
 exact List.length_filter_le _ _
theorem iy:∀(f g:Nat) (l:List Ch),l.length≤f→l.length≤g→jL f l=jL g l
 | 0,g,l,h,_=>by
  obtain rfl:l= []:=List.eq_nil_of_length_eq_zero (by omega)
  rw [dP,dP]
 | f+1,0,l,_,h=>by
  obtain rfl:l= []:=List.eq_nil_of_length_eq_zero (by omega)
  rw [dP,dP]
 | f+1,g+1, [],_,_=>rfl
 | f+1,g+1,c::l,h1,h2=>by
  have h3:=(gM c l (fun x=>decide (x.2.1=c.2.1)) (by simp)).1
  simp only [List.length_cons] at h1 h2
  show _++jL f _=_++jL g _
  rw [iy f g _ (by omega) (by omega)]
def cp (l:List Ch):List UpV:=jL l.length l
theorem iz (c:Ch) (l:List Ch):cp (c::l)=bA ((c::l).filter fun x=>decide (x.2.1=c.2.1))++cp ((c::l).filter fun x=> !decide (x.2.1=c.2.1)):=by
 have h3:=(gM c l (fun x=>decide (x.2.1=c.2.1)) (by simp)).1
 unfold cp
 rw [←iy l.length _ _ h3 (Nat.le_refl _)]
 rfl
theorem CsOk.filter {cs:List Ch} (h:CsOk cs) (f:Ch→Bool):CsOk (cs.filter f):=h.sub (List.length_filter_le f cs) fun _ hc=>(List.mem_filter.1 hc).1
theorem GG (x:AtV) (a b u:Bs):aY Try.prog ae (ax [(fB,CL x a b),(jM,CM u)]):=aA fun p hp=>by
 rcases List.mem_cons.1 hp with rfl | hp;exact Gm _ _ _
 obtain rfl:=List.mem_singleton.1 hp;exact GF _
theorem Eh {cs:List Ch} (h:CsOk cs) {u0:List UpV} (hu0:u0.length+cs.length≤50000) (K:KX) (hK:K .normal (ak 34 uq (pT [] ((u0++cp cs).map UpV.cells))) (rJ ((u0++cp cs).map UpV.cells).length) []):
    VWx Try.prog ae none 0 (am Try.prog kK 0) (ak 34 uq (pT (cs.map aj) (u0.map UpV.cells))) (rJ (u0.map UpV.cells).length) [] K:=by
  refine cH (f:=kK) (id:=0) (by kernel_rfl) 34 uq (fun s:List Ch × List UpV=>s.1.length) (fun s=>pT (s.1.map aj) (s.2.map UpV.cells)) (fun s=>rJ (s.2.map UpV.cells).length) (fun s=>s.2++cp s.1=u0++cp cs∧CsOk s.1∧s.2.length+s.1.length≤50000) 0 1 (fun j _=>⟨Nat.le_refl _,Nat.le_refl _⟩)
    (fun e vs T=>e= .normal∧vs=pT [] ((u0++cp cs).map UpV.cells)∧T=rJ ((u0++cp cs).map UpV.cells).length) (fun s ⟨h1,h2,h3⟩=> ?_) (cs,u0) ⟨rfl,h,hu0⟩ K ?_
  rotate_left
  · rintro e vs T ⟨rfl,rfl,rfl⟩
    exact hK
  obtain ⟨l,us⟩:=s
  simp only at h1 h2 h3
  have hul:(us.map UpV.cells).length=us.length:=List.length_map _
  cases l with
  | nil=>
    refine bh ac aa (GG bS [] [] []) ag (z8 [] [] [] (us.map UpV.cells) [] [] 0 0 bS true 0 [] _) (aI rfl ?_)
    have:us=u0++cp cs:=by rw [←h1];simp [cp,dP]
    rw [←this]
    exact ⟨rfl,rfl,rfl,rfl,rfl⟩
  | cons c l=>
    have hlen:=cD (c::l)
    obtain ⟨f1,f2⟩:=gM c l (fun x=>decide (x.2.1=c.2.1)) (by simp)
    have hpc:=iz c l
    generalize hA:((c::l).filter fun x=>decide (x.2.1=c.2.1))=A at f2 hpc
    generalize hB:((c::l).filter fun x=> !decide (x.2.1=c.2.1))=B at f1 f2 hpc
    have hul2:=lI A
    have e2:(us++bA A).map UpV.cells=us.map UpV.cells++(bA A).map UpV.cells:=List.map_append
    have hcu:((bA A).map UpV.cells).length=(bA A).length:=List.length_map _
    simp only [List.length_cons] at h3 f2
    refine bh ac aa (GG c.2.1 (A.map aj) (B.map aj) ((bA A).map UpV.cells)) ag (z8 ((c::l).map aj) (A.map aj) (B.map aj) (us.map UpV.cells) ((bA A).map UpV.cells) ((us++bA A).map UpV.cells) c.1.1 c.1.2 c.2.1 c.2.2 ((us.map UpV.cells).length+((bA A).map UpV.cells).length) [((us.map UpV.cells).length+((bA A).map UpV.cells).length,7,true)] _)
      (be (decide_eq_true (by rw [hlen,List.length_cons];omega)) ⟨ut 19,⟨rfl,rfl,rfl,c::l,rfl,h2,(h2.at' c List.mem_cons_self).1,by rw [hA],by rw [hB]⟩,⟨A,rfl,hA▸h2.filter _,rfl⟩, ?_, ?_⟩)
    · rw [e2]
      exact GC.app (T:=⟨_, [((us.map UpV.cells).length,7,true)]⟩) (k:=0) (bn:=true) (es:=us.map UpV.cells) (es2:=(bA A).map UpV.cells) rfl rfl (by omega)
    · have e3:((us++bA A).map UpV.cells).length=(us.map UpV.cells).length+((bA A).map UpV.cells).length:=by rw [e2,List.length_append]
      refine ⟨rfl,rfl,(B,us++bA A),⟨?_, ?_, ?_⟩, ?_, .inr ⟨?_, ?_⟩⟩
      rotate_left
      · show CsOk B
        rw [←hB];exact h2.filter _
      rotate_right
      · show (us++bA A)++cp B=_
        rw [←h1,hpc,List.append_assoc]
      · show (us++bA A).length+B.length≤50000
        rw [List.length_append];omega
      · show B.length<(c::l).length
        rw [List.length_cons];omega
      · show _=rJ ((us++bA A).map UpV.cells).length
        rw [e3];rfl
      · show _=pT (B.map aj) ((us++bA A).map UpV.cells)
        unfold pT
        rw [e3]
        simp only [av,TV.ren,bc,dl,Tok.ren];rfl
def qO:Bs→List Int
 | []=> []
 | [.val (.int _ z)]::l=>z::qO l
 | _::l=>qO l
theorem wg:∀l:List Int,qO (iV l)=l
 | []=>rfl
 | a::l=>by
  have:=wg l
  simp only [iV,List.map_cons] at this ⊢
  show a::qO _=_
  rw [this]
def Ca:List TV→Ch
 | [.val (.int _ a), .val (.int _ n), .val (.int _ o), .vec _ p _, .val (.int _ h), .val (.int _ m), .val (.bool hm), .val (.bool g)]=>((a,n),⟨o,qO p,h,m,hm⟩,g)
 | _=>((0,0),bS,false)
theorem Cb (c:Ch):Ca (aj c)=c:=by
 obtain ⟨⟨a,n⟩,⟨o,p,h,m,hm⟩,g⟩:=c
 show ((a,n),(⟨o,qO (iV p),h,m,hm⟩:AtV),g)=_
 rw [wg]
theorem Cc (cs:List Ch):(cs.map aj).map Ca=cs:=by
 rw [List.map_map]
 conv=>rhs;rw [←List.map_id cs]
 exact List.map_congr_left fun c _=>Cb c
def uu (l:Bs):Bs:=(ba (l.map Ca)).map aj
theorem mZ (cs:List Ch):uu (cs.map aj)=(ba cs).map aj:=by unfold uu;rw [Cc]
theorem Am:∀ro ys T K,wc uu ro ys T K→VCx Try.prog ae ro dF ys T K:=by
 intro ro ys T K h
 unfold wc at h
 split at h
 ·obtain ⟨⟨cs,rfl,hc⟩,hk⟩:=h
  have hf:=hc.few
  rw [mZ] at hk
  exact VCx.loosePure ap (FV (by omega) (fun c h=>(hc.at' c h).1) .none) (by simp [bH]) (by simp only [av,TV.ren,bc,Tok.ren]) (fun _ _=>by simp only [TV.ren,bc,Tok.ren]) hk
 ·exact h.elim
theorem lJ {cs:List Ch} {c:Ch}:c∈ba cs ↔ c∈aJ cs cs.length:=by
 unfold ba
 rw [List.mem_map]
 constructor
 ·rintro ⟨p,hp,rfl⟩
  have hp:p∈dN cs:=(List.mergeSort_perm _ _).mem_iff.1 hp
  unfold dN at hp
  obtain ⟨d,hd,rfl⟩:=List.mem_map.1 hp
  unfold lF
  rw [nx hd]
  exact hd
 ·intro h
  refine ⟨c.1,(List.mergeSort_perm _ _).mem_iff.2 (List.mem_map_of_mem h), ?_⟩
  unfold lF
  rw [nx h];rfl
theorem nz {cs:List Ch} (h:CsOk cs):CsOk (ba cs):=h.sub (by rw [oO];exact pQ _) fun c hc=>by
 obtain ⟨i,_,h2,_⟩:=jn.1 (lJ.1 hc)
 exact List.mem_of_getElem? h2
theorem GH {cs:List Ch} (h:CsOk cs):VCx Try.prog ae 0 kK [.vec 8 (cs.map aj) .none] ⟨[], []⟩ fun x T' =>x= .vec 7 ((cC cs).map UpV.cells) .none∧T' =⟨[], []⟩:=by
  have ho:=nz h
  have hg:cC cs=bA ((ba cs).filter fun c=>c.2.2)++cp ((ba cs).filter fun c=> !c.2.2):=by
    unfold cC cp
    rw [iy _ _ _ (List.length_filter_le _ _) (Nat.le_refl _)]
  have hul:=lI ((ba cs).filter fun c=>c.2.2)
  have hsum:((ba cs).filter fun c=>c.2.2).length+((ba cs).filter fun c=> !c.2.2).length=(ba cs).length:=by
    have:∀m:List Ch,(m.filter fun c=>c.2.2).length+(m.filter fun c=> !c.2.2).length=m.length:=fun m=>by
      induction m with
      | nil=>rfl
      | cons a m ih=>
        rw [List.filter_cons,List.filter_cons]
        cases a.2.2<;>simp<;>omega
    exact this _
  have hf:=ho.few
  rw [hg]
  refine VCx.toLe (Q:=fun T' =>T' =⟨[], []⟩) (VCx.keepQ 0 0 (Nat.le_refl _) (Nat.le_refl _) (ai ac aa (aA fun p hp=> ?_) (bf fun p hp=> ?_) (HD (cs.map aj) (((ba cs).filter fun c=>c.2.2).map aj) (((ba cs).filter fun c=> !c.2.2).map aj) ((bA ((ba cs).filter fun c=>c.2.2)).map UpV.cells) ((bA ((ba cs).filter fun c=>c.2.2)++cp ((ba cs).filter fun c=> !c.2.2)).map UpV.cells) .none uu _)
    ⟨⟨cs,rfl,h⟩,⟨rfl,ba cs,mZ cs,by omega,rfl,rfl⟩,⟨rfl,_,rfl,ho.filter _,rfl⟩,rfl,⟨rfl,rfl,rfl,trivial,rfl,rfl,rfl⟩, ?_,rfl⟩))
  · rcases List.mem_cons.1 hp with rfl | hp;exact Am
    rcases List.mem_cons.1 hp with rfl | hp;exact Gl _ _
    obtain rfl:=List.mem_singleton.1 hp;exact GE _
  · obtain rfl:=List.mem_singleton.1 hp
    exact bq (Eh (ho.filter _) (by omega))
  · simp only [TV.ren,dl]
    exact .vec 7 _ _
theorem An (u:Bs):∀ro ys T K,wd u ro ys T K→VCx Try.prog ae ro kK ys T K:=by
 intro ro ys T K h
 unfold wd at h
 split at h
 ·obtain ⟨⟨cs,hl,hc,rfl⟩,hk⟩:=h
  refine VCx.argsLe (xs:= [.vec 8 (cs.map aj) .none]) ⟨hl _,trivial⟩ ?_
  exact VCx.liftPure ap (GH hc) (by simp only [av,TV.ren,bc,Tok.ren]) (fun _ _=>by simp only [TV.ren,dl,Tok.ren]) hk
 ·exact h.elim
end
section
open Go.RowKit
set_option maxRecDepth 100000

def bk (s:Ch × Bool):List TV:=bif s.2 then [.val (.int .u32 s.1.1.1), .val (.int .i64 s.1.1.2), .val (.int .i64 0), .val (.slice none 0 0), .val (.int .u32 0), .val (.int .i64 0), .val (.bool false), .val (.bool true)] else aj s.1
theorem Ei (s:Ch × Bool) (f g:Nat→Option Nat):av f g (bk s)=bk s:=by
 unfold bk
 cases s.2
 ·exact kI _ f g
 ·rfl
theorem oP (f g:Nat→Option Nat) (l:List (Ch × Bool)):bu f g (l.map bk)=l.map bk:=e6 bk (fun u=>Ei u f g) l
def cN (w:List Px):List (Ch × Bool):=w.map fun p=>((p,bS,true),true)
def dv (a:AtV) (n:List Px):List (Ch × Bool):=n.map fun p=>((p,a,false),false)
def cK (us:List UpV):List (Ch × Bool):=us.flatMap fun u=>cN u.w++dv u.a u.n
theorem wh (us:List UpV):(cK us).map (·.1)=bU us:=by
 unfold cK bU cN dv
 rw [List.map_flatMap]
 simp only [List.map_append,List.map_map]
 rfl
theorem GI {us:List UpV}:∀s∈cK us,TVleL (bk s) (aj s.1):=by
 intro s hs
 unfold bk
 cases h:s.2 with
 | false=>exact TVleL.refl _
 | true=>
  obtain ⟨u,_,hs⟩:=List.mem_flatMap.1 hs
  rcases List.mem_append.1 hs with hs | hs
  ·obtain ⟨p,_,rfl⟩:=List.mem_map.1 hs
   exact ⟨.refl _, .refl _, .refl _, .nil 1, .refl _, .refl _, .refl _, .refl _,trivial⟩
  ·obtain ⟨p,_,rfl⟩:=List.mem_map.1 hs
   cases h
theorem CS {l:List Px} {j:Nat} {p:Px} {tok:Tok} (x i:Nat) (hne:Nat.beq x i=false) (hp:l[j]?=some p):aW Try.prog ae (.indexAddr 42 (.tmp x) (.tmp i)) [(x, .vec 2 (au l) tok),(i, .val (.int .i64 (j:Int)))] (.elt (cE p)):=
 Ic.ix hne (by simp [au,hp])
section
variable {us:List UpV} {u:UpV} {tok:Tok} {j:Nat}
def gm (us:List UpV) (tok:Tok) (j:Nat) (v:List Px) (l:List (Ch × Bool)) (i:Nat):List TV:=rK (l.map bk) (us.map UpV.cells) tok j (au v) i
theorem wi (us:List UpV) (j:Nat) (v:List Px) (l:List (Ch × Bool)) (i:Nat):av (aw 1) (aw 1) (gm us .none j v l i)=gm us .none j v l i:=by
 simp only [gm,rK,av,TV.ren,oP,dl,cM,Tok.ren];rfl
theorem Ao {objs:List VO} {tl:mI} {l:List (Ch × Bool)} {s:Ch × Bool} (y x:Nat) (hk:tl[0]?=some ((l.map bk).length,8,true)) (hne:Nat.beq y x=false) (hl:l.length≤10000000):aZ Try.prog ae 0 ⟨objs,tl⟩ (.call ⟨.builtin .append, #[.tmp y, .tmp x], #[48,48]⟩) [(y, .vec 8 (l.map bk) (.tail 0 (l.map bk).length)),(x, .vec 8 [bk s] .full)] (.vec 8 ((l++ [s]).map bk) (.tail 0 ((l++ [s]).map bk).length)) ⟨objs,tl.set 0 (((l++ [s]).map bk).length,8,true)⟩:=by
 have e:(l++ [s]).map bk=l.map bk++ [bk s]:=List.map_append
 have e2:((l++ [s]).map bk).length=(l.map bk).length+ [bk s].length:=by rw [e,List.length_append]
 rw [e2,e]
 exact nW.app (T:=⟨objs,tl⟩) hk hne (by simp only [List.length_map,List.length_cons,List.length_nil];omega)
theorem wk (u:UpV) (n:Nat) (o:List VO):VT.keep ⟨.cells u.cells::o, [(n,8,true)]⟩ 1 1=eX (au u.w) u.a (au u.n) n:=by
 have:=jr u (aw 1) (aw 1)
 simp only [VT.keep,List.take_succ_cons,List.take_zero,List.map_cons,List.map_nil,VO.ren,this]
 rfl
theorem uw (us:List UpV) (u:UpV) (j:Nat) (l0:List (Ch × Bool)) (hl:l0.length+u.w.length≤1000000) (K:KX) (hK:K .normal (ak 46 n9 (gm us .none j u.w (l0++cN u.w) u.w.length)) (eX (au u.w) u.a (au u.n) ((l0++cN u.w).map bk).length) []):
    VWx Try.prog ae none 0 (am Try.prog dO 2) (ak 46 n9 (gm us .none j u.w l0 0)) (eX (au u.w) u.a (au u.n) (l0.map bk).length) [] K:=by
  have e0:l0++cN (u.w.take 0)=l0:=by simp [cN]
  suffices h:VWx Try.prog ae none 0 (am Try.prog dO 2) (ak 46 n9 (gm us .none j u.w (l0++cN (u.w.take 0)) 0)) (eX (au u.w) u.a (au u.n) ((l0++cN (u.w.take 0)).map bk).length) [] K by
    rw [e0] at h
    exact h
  refine cH (f:=dO) (id:=2) (by kernel_rfl) 46 n9 (fun i:Nat=>u.w.length-i) (fun i:Nat=>gm us .none j u.w (l0++cN (u.w.take i)) i) (fun i=>eX (au u.w) u.a (au u.n) ((l0++cN (u.w.take i)).map bk).length) (fun i=>i≤u.w.length) 1 1 (fun j _=>⟨Nat.le_refl _,Nat.le_refl _⟩)
    (fun e vs T=>e= .normal∧vs=gm us .none j u.w (l0++cN u.w) u.w.length∧T=eX (au u.w) u.a (au u.n) ((l0++cN u.w).map bk).length) (fun i hi=> ?_) 0 (Nat.zero_le _) K ?_
  rotate_left
  · rintro e vs T ⟨rfl,rfl,rfl⟩
    exact hK
  have hlen:=bv u.w
  have hln:(l0++cN (u.w.take i)).length≤l0.length+i:=by rw [List.length_append];unfold cN;rw [List.length_map,List.length_take];omega
  by_cases hlt:i<u.w.length
  · have hr:=List.getElem?_eq_getElem hlt
    generalize u.w[i]=p at hr
    have e1:l0++cN (u.w.take (i+1))=(l0++cN (u.w.take i))++ [((p,bS,true),true)]:=by
      rw [cF hr,List.append_assoc];unfold cN;rw [List.map_append];rfl
    show VWx _ _ _ _ _ (ak 46 n9 (gm us .none j u.w (l0++cN (u.w.take i)) i)) (eX (au u.w) u.a (au u.n) ((l0++cN (u.w.take i)).map bk).length) _ _
    generalize eA:l0++cN (u.w.take i)=A at e1 hln
    refine bh ac aa ah ag (Ab (A.map bk) ((A++ [((p,bS,true),true)]).map bk) (us.map UpV.cells) (au u.w) (au u.n) (au u.w) u.a .none p.1 p.2 j i ((A++ [((p,bS,true),true)]).map bk).length [(((A++ [((p,bS,true),true)]).map bk).length,8,true)] _) ?_
    refine be (decide_eq_true (by rw [hlen];omega)) ⟨CS 17 19 rfl hr, ?_, ?_⟩
    · exact Ao (l:=A) (s:=((p,bS,true),true)) (tl:= [((A.map bk).length,8,true)]) 23 26 rfl rfl (by omega)
    · rw [eC (by omega)]
      refine ⟨rfl,rfl,i+1,hlt,by show u.w.length-(i+1)<u.w.length-i;omega, .inr ⟨?_, ?_⟩⟩
      · show _=eX _ _ _ ((l0++cN (u.w.take (i+1))).map bk).length
        rw [e1]
        exact wk u _ _
      · show _=gm us .none j u.w (l0++cN (u.w.take (i+1))) (i+1)
        rw [e1]
        exact wi us j u.w _ (i+1)
  · obtain rfl:i=u.w.length:=by omega
    show VWx _ _ _ _ _ (ak 46 n9 (gm us .none j u.w (l0++cN (u.w.take u.w.length)) u.w.length)) (eX (au u.w) u.a (au u.n) ((l0++cN (u.w.take u.w.length)).map bk).length) _ _
    rw [List.take_length]
    refine bh ac aa ah ag (Ab ((l0++cN u.w).map bk) [] (us.map UpV.cells) (au u.w) (au u.n) (au u.w) u.a .none 0 0 j u.w.length 0 [] _) (aI (decide_eq_false (by rw [hlen];omega)) ?_)
    exact ⟨rfl,rfl,rfl,rfl,rfl⟩
theorem uy (us:List UpV) (u:UpV) (j:Nat) (l0:List (Ch × Bool)) (hl:l0.length+u.n.length≤1000000) (K:KX) (hK:K .normal (ak 46 oa (gm us .none j u.n (l0++dv u.a u.n) u.n.length)) (eX (au u.w) u.a (au u.n) ((l0++dv u.a u.n).map bk).length) []):
    VWx Try.prog ae none 0 (am Try.prog dO 4) (ak 46 oa (gm us .none j u.n l0 0)) (eX (au u.w) u.a (au u.n) (l0.map bk).length) [] K:=by
  have e0:l0++dv u.a (u.n.take 0)=l0:=by simp [dv]
  suffices h:VWx Try.prog ae none 0 (am Try.prog dO 4) (ak 46 oa (gm us .none j u.n (l0++dv u.a (u.n.take 0)) 0)) (eX (au u.w) u.a (au u.n) ((l0++dv u.a (u.n.take 0)).map bk).length) [] K by
    rw [e0] at h
    exact h
  refine cH (f:=dO) (id:=4) (by kernel_rfl) 46 oa (fun i:Nat=>u.n.length-i) (fun i:Nat=>gm us .none j u.n (l0++dv u.a (u.n.take i)) i) (fun i=>eX (au u.w) u.a (au u.n) ((l0++dv u.a (u.n.take i)).map bk).length) (fun i=>i≤u.n.length) 1 1 (fun j _=>⟨Nat.le_refl _,Nat.le_refl _⟩)
    (fun e vs T=>e= .normal∧vs=gm us .none j u.n (l0++dv u.a u.n) u.n.length∧T=eX (au u.w) u.a (au u.n) ((l0++dv u.a u.n).map bk).length) (fun i hi=> ?_) 0 (Nat.zero_le _) K ?_
  rotate_left
  · rintro e vs T ⟨rfl,rfl,rfl⟩
    exact hK
  have hlen:=bv u.n
  have hln:(l0++dv u.a (u.n.take i)).length≤l0.length+i:=by rw [List.length_append];unfold dv;rw [List.length_map,List.length_take];omega
  by_cases hlt:i<u.n.length
  · have hr:=List.getElem?_eq_getElem hlt
    generalize u.n[i]=p at hr
    have e1:l0++dv u.a (u.n.take (i+1))=(l0++dv u.a (u.n.take i))++ [((p,u.a,false),false)]:=by
      rw [cF hr,List.append_assoc];unfold dv;rw [List.map_append];rfl
    show VWx _ _ _ _ _ (ak 46 oa (gm us .none j u.n (l0++dv u.a (u.n.take i)) i)) (eX (au u.w) u.a (au u.n) ((l0++dv u.a (u.n.take i)).map bk).length) _ _
    generalize eA:l0++dv u.a (u.n.take i)=A at e1 hln
    refine bh ac aa ah ag (Ac (A.map bk) ((A++ [((p,u.a,false),false)]).map bk) (us.map UpV.cells) (au u.w) (au u.n) (au u.n) u.a .none p.1 p.2 j i ((A++ [((p,u.a,false),false)]).map bk).length [(((A++ [((p,u.a,false),false)]).map bk).length,8,true)] _) ?_
    refine be (decide_eq_true (by rw [hlen];omega)) ⟨CS 30 32 rfl hr, ?_, ?_⟩
    · exact Ao (l:=A) (s:=((p,u.a,false),false)) (tl:= [((A.map bk).length,8,true)]) 36 41 rfl rfl (by omega)
    · rw [eC (by omega)]
      refine ⟨rfl,rfl,i+1,hlt,by show u.n.length-(i+1)<u.n.length-i;omega, .inr ⟨?_, ?_⟩⟩
      · show _=eX _ _ _ ((l0++dv u.a (u.n.take (i+1))).map bk).length
        rw [e1]
        exact wk u _ _
      · show _=gm us .none j u.n (l0++dv u.a (u.n.take (i+1))) (i+1)
        rw [e1]
        exact wi us j u.n _ (i+1)
  · obtain rfl:i=u.n.length:=by omega
    show VWx _ _ _ _ _ (ak 46 oa (gm us .none j u.n (l0++dv u.a (u.n.take u.n.length)) u.n.length)) (eX (au u.w) u.a (au u.n) ((l0++dv u.a (u.n.take u.n.length)).map bk).length) _ _
    rw [List.take_length]
    refine bh ac aa ah ag (Ac ((l0++dv u.a u.n).map bk) [] (us.map UpV.cells) (au u.w) (au u.n) (au u.n) u.a .none 0 0 j u.n.length 0 [] _) (aI (decide_eq_false (by rw [hlen];omega)) ?_)
    exact ⟨rfl,rfl,rfl,rfl,rfl⟩
end
theorem CT {us:List UpV} {j:Nat} {u:UpV} {tok:Tok} (x i:Nat) (hne:Nat.beq x i=false) (hp:us[j]?=some u):aW Try.prog ae (.indexAddr 60 (.tmp x) (.tmp i)) [(x, .vec 7 (us.map UpV.cells) tok),(i, .val (.int .i64 (j:Int)))] (.elt u.cells):=
 GC.ix hne (by simp [hp])
theorem Cd {us:List UpV} {j:Nat} {u:UpV} (h:us[j]?=some u):cK (us.take (j+1))=cK (us.take j)++cN u.w++dv u.a u.n:=by
 unfold cK
 rw [cF h,List.flatMap_append]
 simp [List.append_assoc]
theorem uz (us:List UpV) (j:Nat):(cK (us.take j)).length≤(cK us).length:=by
 have:(cK (us.take j)++cK (us.drop j)).length=(cK us).length:=by
  unfold cK
  rw [←List.flatMap_append,List.take_append_drop]
 rw [List.length_append] at this
 omega
theorem Ej {us:List UpV} (h1:us.length≤50000) (h2:(cK us).length≤1000000) (K:KX) (hK:K .normal (ak 46 pU (lY ((cK us).map bk) (us.map UpV.cells) .none ((us.map UpV.cells).length:Nat))) (n8 ((cK us).map bk).length) []):
    VWx Try.prog ae none 0 (am Try.prog dO 0) (ak 46 pU (lY [] (us.map UpV.cells) .none 0)) (n8 0) [] K:=by
  have hlen:(us.map UpV.cells).length=us.length:=List.length_map _
  refine cH (f:=dO) (id:=0) (by kernel_rfl) 46 pU (fun j:Nat=>us.length-j) (fun j:Nat=>lY ((cK (us.take j)).map bk) (us.map UpV.cells) .none (j:Int)) (fun j=>n8 ((cK (us.take j)).map bk).length) (fun j=>j≤us.length) 0 1 (fun j _=>⟨Nat.le_refl _,Nat.le_refl _⟩)
    (fun e vs T=>e= .normal∧vs=lY ((cK us).map bk) (us.map UpV.cells) .none ((us.map UpV.cells).length:Nat)∧T=n8 ((cK us).map bk).length) (fun j hj=> ?_) 0 (Nat.zero_le _) K ?_
  rotate_left
  · rintro e vs T ⟨rfl,rfl,rfl⟩
    exact hK
  by_cases hlt:j<us.length
  · have hr:=List.getElem?_eq_getElem hlt
    generalize us[j]=u at hr
    have e1:=Cd hr
    have hln:=uz us (j+1)
    have hln2:(cK (us.take (j+1))).length=(cK (us.take j)).length+u.w.length+u.n.length:=by
      rw [e1,List.length_append,List.length_append];unfold cN dv;rw [List.length_map,List.length_map]
    show VWx _ _ _ _ _ (ak 46 pU (lY ((cK (us.take j)).map bk) (us.map UpV.cells) .none (j:Int))) (n8 ((cK (us.take j)).map bk).length) _ _
    generalize eA:cK (us.take j)=A at e1 hln2
    have hw:(A++cN u.w).length=A.length+u.w.length:=by rw [List.length_append];unfold cN;rw [List.length_map]
    refine bh ac aa ah (bf fun p hp=> ?_) (Aa (A.map bk) ((A++cN u.w).map bk) ((A++cN u.w++dv u.a u.n).map bk) (us.map UpV.cells) (au u.w) (au u.n) u.a .none j _) (be (decide_eq_true (by rw [hlen];omega)) ⟨CT 10 12 rfl hr,rfl,⟨rfl,rfl,rfl,trivial,rfl,rfl,rfl⟩,rfl,⟨rfl,rfl,rfl,trivial,rfl,rfl,rfl⟩, ?_⟩)
    · rcases List.mem_cons.1 hp with rfl | hp
      · refine bq fun K hK=>uw us u j A (by omega) K ?_
        rw [bv] at hK
        exact hK
      · obtain rfl:=List.mem_singleton.1 hp
        refine bq fun K hK=>uy us u j (A++cN u.w) (by omega) K ?_
        rw [bv] at hK
        exact hK
    · rw [eC (by omega)]
      refine ⟨rfl,rfl,j+1,hlt,by show us.length-(j+1)<us.length-j;omega, .inr ⟨?_, ?_⟩⟩
      · show _=n8 ((cK (us.take (j+1))).map bk).length
        rw [e1];rfl
      · show _=lY ((cK (us.take (j+1))).map bk) _ _ _
        rw [e1]
        simp only [lY,av,TV.ren,oP,dl,Tok.ren];rfl
  · obtain rfl:j=us.length:=by omega
    show VWx _ _ _ _ _ (ak 46 pU (lY ((cK (us.take us.length)).map bk) (us.map UpV.cells) .none (us.length:Int))) (n8 ((cK (us.take us.length)).map bk).length) _ _
    rw [List.take_length]
    refine bh ac aa ah (bf fun p hp=> ?_) (Aa ((cK us).map bk) ((cK us++cN []).map bk) ((cK us++cN []++dv bS []).map bk) (us.map UpV.cells) (au (UpV.mk [] bS []).w) (au (UpV.mk [] bS []).n) bS .none us.length _) (aI (decide_eq_false (by rw [hlen];omega)) ?_)
    · rcases List.mem_cons.1 hp with rfl | hp
      · exact bq fun K hK=>uw us ⟨[],bS, []⟩ us.length (cK us) (by simpa using h2) K hK
      · obtain rfl:=List.mem_singleton.1 hp
        exact bq fun K hK=>uy us ⟨[],bS, []⟩ us.length (cK us++cN []) (by simpa [cN] using h2) K hK
    · exact ⟨rfl,rfl,rfl,by simp only [lY,hlen],rfl⟩
theorem TVle.vecMem {α:Type} {size:Nat} {f g:α→List TV} {l:List α} (h:∀a∈l,TVleL (f a) (g a)):TVle (.vec size (l.map f) .none) (.vec size (l.map g) .none):=by
  have hf:TVleL (l.map f).flatten (l.map g).flatten:=by
    induction l with
    | nil=>trivial
    | cons a l ih=>
      have:∀{x y u v:List TV},TVleL x y→TVleL u v→TVleL (x++u) (y++v):=by
        intro x
        induction x with
        | nil=>
          intro y u v h1 h2
          cases y with
          | nil=>exact h2
          | cons=>exact h1.elim
        | cons a x ih=>
          intro y u v h1 h2
          cases y with
          | nil=>exact h1.elim
          | cons b y=>exact ⟨h1.1,ih h1.2 h2⟩
      exact this (h a List.mem_cons_self) (ih fun b hb=>h b (List.mem_cons_of_mem _ hb))
  intro gh w u hu
  rcases hu.vec_inv with ⟨rfl,he,_⟩ | ⟨b,o,c,us,rfl,f1,f2,f3,f4,f5,f6,f7,f8⟩ | ⟨a,rfl,he,_⟩
  · have:l= []:=by simpa using he
    subst this;exact .nil trivial
  · have hl:=hf.at.1
    refine .mk_vec (by simp) (by simpa using f1) f2 (fun e he=> ?_) trivial (hf.vrs f5) (fun j hj=>f6 j (by omega)) f7 f8
    obtain ⟨a,ha,rfl⟩:=List.mem_map.1 he
    rw [←(h a ha).at.1]
    exact f3 _ (List.mem_map_of_mem ha)
  · have:l= []:=by simpa using he
    subst this;exact .odd a trivial
theorem GJ {us:List UpV} (h1:us.length≤50000) (h2:(bU us).length≤1000000):VCx Try.prog ae 0 dO [.vec 7 (us.map UpV.cells) .none] ⟨[], []⟩ fun x T' =>x= .vec 8 ((bU us).map aj) .none∧T' =⟨[], []⟩:=by
 have h3:(cK us).length≤1000000:=by rw [←wh,List.length_map] at h2;exact h2
 refine VCx.toLe (Q:=fun T' =>T' =⟨[], []⟩) (VCx.keepQ 0 0 (Nat.le_refl _) (Nat.le_refl _) (ai ac aa ah (bf fun p hp=> ?_) (HE ((cK us).map bk) (us.map UpV.cells) .none _) ⟨rfl,⟨rfl,rfl,rfl,⟨rfl,trivial⟩,rfl,rfl,rfl⟩, ?_,rfl⟩))
 ·obtain rfl:=List.mem_singleton.1 hp
  exact bq (Ej h1 h3)
 ·simp only [TV.ren,oP]
  intro g w v hv
  have h4:=TVle.vecMem (size:=8) (f:=bk) (g:=fun s=>aj s.1) (l:=cK us) GI g w v (ge hv)
  rw [show (cK us).map (fun s=>aj s.1)=(bU us).map aj by rw [←wh,List.map_map];rfl] at h4
  exact h4
theorem GK (l:Bs):∀ro ys T K,zO l ro ys T K→VCx Try.prog ae ro dO ys T K:=by
 intro ro ys T K h
 unfold zO at h
 split at h
 ·obtain ⟨⟨us,rfl,h1,h2,rfl⟩,hk⟩:=h
  exact VCx.loosePure ap (GJ h1 h2) (by simp [bH]) (by simp only [av,TV.ren,dl,Tok.ren]) (fun _ _=>by simp only [TV.ren,bc,Tok.ren]) hk
 ·exact h.elim
theorem GL (c d:Ch) (h1:c.2.1.p.length≤9223372036854775807) (h2:d.2.1.p.length≤9223372036854775807):VCx Try.prog ae 0 nY [.agg (aj c), .agg (aj d)] ⟨[], []⟩ fun x T' =>x= .val (.bool (decide (c=d)))∧T' =⟨[], []⟩:=by
 refine VCx.keepQ 0 0 (Nat.le_refl _) (Nat.le_refl _) (ai ac aa (Gk _) ag (HH c.1.1 c.1.2 d.1.1 d.1.2 c.2.1 d.2.1 c.2.2 d.2.2 (decide (c.2.1=d.2.1)) _) ?_)
 obtain ⟨p,a,g⟩:=c
 obtain ⟨q,b,k⟩:=d
 show cond (aT BinOp.eql (an (c6 p) (c6 q))) _ _
 rw [Il]
 refine bp (fun hp=> ?_) (fun hp=> ?_)
 ·obtain rfl:=of_decide_eq_true hp
  show cond (aT BinOp.eql (an (Value.bool g) (Value.bool k))) _ _
  rw [show aT BinOp.eql (an (Value.bool g) (Value.bool k))=decide (g=k) by cases g<;>cases k<;>rfl]
  refine bp (fun hg=> ?_) (fun hg=> ?_)
  ·obtain rfl:=of_decide_eq_true hg
   refine ⟨⟨a,b,⟨rfl,rfl⟩,⟨h1,h2⟩,rfl⟩, ?_,rfl⟩
   simp only [TV.ren,Prod.mk.injEq,true_and,and_true]
  ·refine ⟨?_,rfl⟩
   have:=of_decide_eq_false hg
   simp only [TV.ren,Prod.mk.injEq,this,and_false,decide_false]
 ·refine ⟨?_,rfl⟩
  have:=of_decide_eq_false hp
  simp only [TV.ren,Prod.mk.injEq,this,false_and,decide_false]
theorem GM (b:Bool):∀ro ys T K,CO b ro ys T K→VCx Try.prog ae ro nY ys T K:=by
 intro ro ys T K h
 unfold CO at h
 split at h
 ·obtain ⟨⟨c,d,rfl,rfl,h1,h2,rfl⟩,hk⟩:=h
  exact VCx.liftPure ap (GL c d h1 h2) (by simp only [av,TV.ren,kI]) (fun _ _=>rfl) hk
 ·exact h.elim
theorem GN (b:Bool):aY Try.prog ae (ax [(nY,CO b)]):=aA fun p hp=>by obtain rfl:=List.mem_singleton.1 hp;exact GM b
theorem Ek {cs ds:List Ch} (hc:CsOk cs) (hd:CsOk ds) (hl:cs.length=ds.length) (K:KX) (hK:bif decide (cs=ds) then K .normal (ak 32 pV (lZ (cs.map aj) (ds.map aj) .none .none ((cs.map aj).length:Nat))) ⟨[], []⟩ [] else ∀(jj:Int) (oo:List VO),K .ret (ak 32 pV (lZ (cs.map aj) (ds.map aj) .none .none jj)) ⟨oo, []⟩ []):
    VWx Try.prog ae none 0 (am Try.prog jN 0) (ak 32 pV (lZ (cs.map aj) (ds.map aj) .none .none 0)) ⟨[], []⟩ [] K:=by
  have hlen:=cD cs
  have hf:=hc.few
  refine cH (f:=jN) (id:=0) (by kernel_rfl) 32 pV (fun j:Nat=>cs.length-j) (fun j:Nat=>lZ (cs.map aj) (ds.map aj) .none .none (j:Int)) (fun _=>⟨[], []⟩) (fun j=>j≤cs.length∧cs.take j=ds.take j) 0 0 (fun j _=>⟨Nat.le_refl _,Nat.le_refl _⟩)
    (fun e vs T=>(cs=ds∧T=⟨[], []⟩∧e= .normal∧vs=lZ (cs.map aj) (ds.map aj) .none .none ((cs.map aj).length:Nat))∨(cs≠ds∧e= .ret∧∃(jj:Int) (oo:List VO),T=⟨oo, []⟩∧vs=lZ (cs.map aj) (ds.map aj) .none .none jj)) (fun j ⟨hj,ht⟩=> ?_) 0 ⟨Nat.zero_le _,rfl⟩ K ?_
  rotate_left
  · rintro e vs T (⟨h1,rfl,rfl,rfl⟩ | ⟨h1,rfl,jj,oo,rfl,rfl⟩)
    · rw [decide_eq_true h1,cond_true] at hK;exact hK
    · rw [decide_eq_false h1,cond_false] at hK;exact hK jj oo
  by_cases hlt:j<cs.length
  · have hr:=List.getElem?_eq_getElem hlt
    have hm:cs[j]∈cs:=List.getElem_mem hlt
    have hlt2:j<ds.length:=by omega
    have hr2:=List.getElem?_eq_getElem hlt2
    have hm2:ds[j]∈ds:=List.getElem_mem hlt2
    generalize cs[j]=c at hr hm
    generalize ds[j]=d at hr2 hm2
    refine bh ac aa (GN (decide (c=d))) ag (Ad (cs.map aj) (ds.map aj) .none .none c.1.1 c.1.2 d.1.1 d.1.2 c.2.1 d.2.1 c.2.2 d.2.2 (decide (c=d)) j _) ?_
    refine be (decide_eq_true (by rw [hlen];omega)) ⟨ny 15 17 rfl hr,ny 22 23 rfl hr2,⟨c,d,rfl,rfl,(hc.at' c hm).1,(hd.at' d hm2).1,rfl⟩, ?_⟩
    cases hcd:decide (c=d) with
    | true=>
      obtain rfl:=of_decide_eq_true hcd
      refine aI rfl ?_
      rw [eC (by omega)]
      exact ⟨rfl,rfl,j+1,⟨hlt,by rw [cF hr,cF hr2,ht]⟩,by show cs.length-(j+1)<cs.length-j;omega, .inr ⟨rfl,by simp only [lZ,av,TV.ren,bc,Tok.ren]⟩⟩
    | false=>
      refine be rfl ⟨rfl,rfl, .inr ⟨fun e=> ?_,rfl,_,_,rfl,rfl⟩⟩
      subst e
      rw [hr] at hr2;injection hr2 with hr2
      exact of_decide_eq_false hcd hr2
  · obtain rfl:j=cs.length:=by omega
    refine bh ac aa (GN true) ag (Ad (cs.map aj) (ds.map aj) .none .none 0 0 0 0 bS bS true true true cs.length _) (aI (decide_eq_false (by rw [hlen];omega)) ?_)
    refine ⟨rfl,rfl, .inl ⟨?_,rfl,rfl,by simp only [lZ,hlen]⟩⟩
    rw [List.take_length] at ht
    rw [ht,hl,List.take_length]
theorem uA (c:Code):gH Try.prog ae (CP c):=bf fun p hp=>by obtain rfl:=List.mem_singleton.1 hp;exact fun _ _ _ _ _ _ h=>h.elim
theorem GO {cs ds:List Ch} (hc:CsOk cs) (hd:CsOk ds):VCx Try.prog ae 0 jN [.vec 8 (cs.map aj) .none, .vec 8 (ds.map aj) .none, .fn (.func nY) [] []] ⟨[], []⟩ fun x T' =>x= .val (.bool (decide (cs=ds)))∧T' =⟨[], []⟩:=by
  have hf:=hc.few
  have hg:=hd.few
  by_cases hl:cs.length=ds.length
  · refine VCx.keepQ 0 0 (Nat.le_refl _) (Nat.le_refl _) (ai ac aa ah (bf fun p hp=> ?_) (HG (cs.map aj) (ds.map aj) .none .none (decide (cs=ds)) _) ?_)
    · obtain rfl:=List.mem_singleton.1 hp
      exact bq (Ek hc hd hl)
    · rw [yX,cD,cD,hl]
      refine aI (by simp) ⟨rfl,⟨rfl,rfl,rfl,trivial,rfl,rfl,by rw [←hl,←cD cs]⟩, ?_⟩
      cases hcd:decide (cs=ds) with
      | true=>exact ⟨rfl,rfl⟩
      | false=>exact fun jj oo=>⟨rfl,rfl⟩
  · have hcd:decide (cs=ds)=false:=decide_eq_false fun e=>hl (by rw [e])
    rw [hcd]
    refine VCx.keepQ 0 0 (Nat.le_refl _) (Nat.le_refl _) (ai ac aa ah (uA _) (Gg (cs.map aj) (ds.map aj) .none .none _) (be ?_ ⟨rfl,rfl⟩))
    rw [yX,cD,cD]
    simp only [Bool.not_eq_true',decide_eq_false_iff_not]
    omega
end

end Go.Proofs.Ytnfplefcghadfaa