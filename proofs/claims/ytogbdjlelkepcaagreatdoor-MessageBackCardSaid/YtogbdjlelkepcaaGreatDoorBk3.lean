/-Part 3 of the proof of messageBackCard_holds:Vda,Vdb,Vdc ... No condition. -/
import Derived.Sort.LoopGhostIn
import Derived.RangeFuncNested
import Derived.ProofKit
import Derived.OpenShut
import Derived.Lib.SmallJoins
import Derived.Test.YtogbdjlelkepcaaGreatDoorBk1
import Derived.Test.YtogbdjlelkepcaaGreatDoorBk2
set_option maxRecDepth 100000
namespace Go.Proofs.YtogbdjlelkepcaaGreatDoor
section
open Go.RowKit

section
variable {P:Program} {G:aU}
theorem kQ {T0 T:VT} (h:T.objs.take T0.objs.length=T0.objs) {id:Nat} {o:VO} (k:T0.objs[id]?=some o):T.objs[id]?=some o:=by
 have hlt:=(List.getElem?_eq_some_iff.1 k).1
 rw [←h,List.getElem?_take,if_pos hlt] at k
 exact k
theorem qO {T0 T:VT} (h:T.objs.take T0.objs.length=T0.objs) {x:TV} {n:Nat} {cs:List TV} (k:dC T0 x n=some cs):dC T x n=some cs:=by
 cases x
 case ptr id off=>
  simp only [dC] at k ⊢
  split at k
  ·rename_i cs' hid;rw [kQ h hid];exact k
  ·rename_i cs' hid;rw [kQ h hid];exact k
  ·cases k
 all_goals first
  | exact k
  | (simp only [dC] at k;done)
theorem Ee {T0 T:VT} (h:T.objs.take T0.objs.length=T0.objs) {t:TypeId} {x y:TV} (k:j5 P T0 t x=some y):j5 P T t x=some y:=by
 unfold j5 at k ⊢
 cases hu:P.underlying t with
 | none=>rw [hu] at k;cases k
 | some d=>
  cases hi:P.info? t with
  | none=>rw [hu,hi] at k;cases k
  | some i=>
   rw [hu,hi] at k
   simp only at k ⊢
   cases hb:mH d with
   | true=>
    rw [hb] at k
    simp only [if_true,Option.map_eq_some_iff] at k ⊢
    obtain ⟨cs,h1,h2⟩:=k
    exact ⟨cs,qO h h1,h2⟩
   | false=>
    rw [hb] at k
    simp only [Bool.false_eq_true,if_false] at k ⊢
    split at k
    ·rename_i z hz;rw [qO h hz];exact k
    ·cases k
theorem FT {T0 T:VT} (h:T.objs.take T0.objs.length=T0.objs) {t:TypeId} {x y:TV} (k:ot P T0 t x=some y):ot P T t x=some y:=by
 unfold ot at k ⊢
 cases hu:P.underlying t with
 | none=>rw [hu] at k;cases k
 | some d=>
  rw [hu] at k
  cases d<;>try (exact k)
  cases x
  case val v=>
   cases v<;>try (exact k)
   rename_i m
   cases m<;>exact k
  case map id=>
   have k' :(match T0.objs[id]? with
    | some (VO.map _ _ es _)=>some (TV.val (.int .i64 es.length))
    | _=>none)=some y:=k
   show (match T.objs[id]? with
    | some (VO.map _ _ es _)=>some (TV.val (.int .i64 es.length))
    | _=>none)=some y
   split at k'
   ·rename_i hid;rw [kQ h hid];exact k'
   ·cases k'
  all_goals exact k
theorem Ef {T0 T:VT} (h:T.objs.take T0.objs.length=T0.objs) {n:Nat} {x:TV} {y:List (List TV)} (k:bQ T0 n x=some y):bQ T n x=some y:=by
 cases x
 case row sz id off m=>
  simp only [bQ] at k ⊢
  split at k
  ·rename_i hid;rw [kQ h hid];exact k
  ·cases k
 case sl id off m c=>
  simp only [bQ] at k ⊢
  split at k
  ·rename_i hid;rw [kQ h hid];exact k
  ·rename_i hid;rw [kQ h hid];exact k
  ·cases k
 case val v=>
  cases v<;>try (exact k)
  rename_i q m c
  cases q<;>try (exact k)
  cases m<;>exact k
 all_goals exact k
theorem Cg {T0 T:VT} (h:T.objs.take T0.objs.length=T0.objs) {s d:TypeId} {x y:TV} (k:fV P T0 s d x=some y):fV P T s d x=some y:=by
 unfold fV at k ⊢
 split at k
 ·split at k
  ·cases x
   case val v=>exact k
   all_goals
    simp only at k ⊢
    split at k
    ·rename_i es hes;rw [Ef h hes];exact k
    ·cases k
  ·cases k
 ·cases k
theorem zW {T0 T:VT} (h:T.objs.take T0.objs.length=T0.objs) {t:TypeId} {m k y:TV} {ok:Bool} (q:fW P T0 t m k ok=some y):fW P T t m k ok=some y:=by
 unfold fW at q ⊢
 split at q
 ·rename_i kt et kv hu hk
  split at q
  ·rename_i sh i hs hi
   split at q
   ·cases hb:sh.fits kv with
    | false=>rw [hb] at q;cases q
    | true=>
     rw [hb] at q
     simp only [cond_true] at q ⊢
     cases m
     case val v=>
      cases v<;>try (exact q)
      rename_i m
      cases m<;>exact q
     case map id=>
      have q' :(match T0.objs[id]? with
       | some (VO.map sh' look _ _)=>bif wx sh sh' then some (mw ok (look kv) _) else none
       | _=>none)=some y:=q
      show (match T.objs[id]? with
       | some (VO.map sh' look _ _)=>bif wx sh sh' then some (mw ok (look kv) _) else none
       | _=>none)=some y
      split at q'
      ·rename_i hid;rw [kQ h hid];exact q'
      ·cases q'
     all_goals exact q
   ·cases q
  ·cases q
 ·cases q
theorem Eg {T0 T:VT} (h:T.objs.take T0.objs.length=T0.objs) {op:Op} {ev:Operand→TV} {y:TV} (k:dj P T0 op ev=some y):dj P T op ev=some y:=by
 cases op<;>simp only [dj] at k ⊢<;>try (exact k)
 case load t a=>exact Ee h k
 case call c=>
  obtain ⟨cal,args,ats⟩:=c
  unfold j6 at k ⊢
  split at k
  ·rename_i hc
   split at k
   ·exact FT h k
   ·cases k
  ·exact k
  ·exact k
  ·cases k
theorem lp {T0 T:VT} (h:T.objs.take T0.objs.length=T0.objs) {op:Op} {ev:Operand→TV} {y:TV} (k:bh P T0 op ev=some y):bh P T op ev=some y:=by
 cases op<;>simp only [bh] at k ⊢<;>try (exact Eg h k)
 case convert s d x=>
  split at k
  ·rename_i r hr
   rw [Cg h hr];exact k
  ·rename_i hn
   have e:fV P T s d (ev x)=none∨∃r,fV P T s d (ev x)=some r:=by cases fV P T s d (ev x)<;>simp
   rcases e with e | ⟨r,e⟩
   ·rw [e];exact k
   ·exfalso
    simp only [dj,Option.bind_eq_some_iff] at k
    obtain ⟨v,hv,k⟩:=k
    --a value that is known whole is no row
    unfold fV at e
    split at e
    ·rename_i el hs hd
     split at e
     ·cases hx:ev x<;>rw [hx] at e hv<;>simp only at e<;>try (cases e)
      all_goals try (simp [df] at hv;done)
      all_goals
       rename_i cs
       simp only [bQ] at e
       cases e
     ·cases e
    ·cases e
 case lookup t m q ok=>exact zW h k
def lA (P:Program) (G:aU) (Tp:VT) (o:Oper) (s:List TV) (y:TV):Prop:=∀g w (ρ:Operand→Value) T,T.objs.take Tp.objs.length=Tp.objs→RW g T w→(∀x,VR g w (be G s x) (ρ x))→
 ∃m v g' w',(execOp ρ o).run P w= .ok m w' ∧gJ m=some v∧VR g' w' y v∧Evo g w g' w' ∧RW g' T w' ∧Same g T w w'
theorem IN (T:VT):T.objs.take (⟨[], []⟩:VT).objs.length=(⟨[], []⟩:VT).objs:=by simp
theorem tR {o:Oper} {s:List TV} {y:TV} {ev:(Operand→TV)} (hev:∀g w (ρ:Operand→Value),(∀x,VR g w (be G s x) (ρ x))→∀x,VR g w (ev x) (ρ x)) (h:bm P o.op ev=some y) (Tp:VT):lA P G Tp o s y:=by
 intro g w ρ T _ r hρ
 obtain ⟨v,h1,h2⟩:=lw (P:=P) h (hev g w ρ hρ)
 exact ⟨_,v,g,w,h2 w,rfl,h1,Evo.refl _ _,r,Same.refl _ _ _⟩
theorem IP {T0:VT} {o:Oper} {s:List TV} {y:TV} (h:bh P T0 o.op (be G s)=some y):lA P G T0 o s y:=by
 intro g w ρ T hT r hρ
 obtain ⟨v,h1,h2⟩:=qE (P:=P) r (lp hT h) hρ
 exact ⟨_,v,g,w,h2 w (Same.refl _ _ _),rfl,h1,Evo.refl _ _,r,Same.refl _ _ _⟩
theorem FU {T0:VT} {o:Oper} {s:List TV} {y:TV} (h:D9 P G T0 o s y):lA P G ⟨[], []⟩ o s y∨(isRead P o.op=true∧bm P o.op (be G s)=none∧bh P T0 o.op (be G s)=some y):=by
 unfold D9 at h
 split at h
 ·rename_i t d x hop
  cases hr:isRead P (.convert t d x) with
  | false=>
   rw [hr] at h
   obtain ⟨hpu⟩:=h
   exact .inl (tR (fun g w ρ hρ=>kP hρ _) hpu _)
  | true=>
   rw [hr] at h
   obtain ⟨h0,h1⟩:=h
   rw [hop]
   exact .inr ⟨hr,by simp [bm,dI,h0],by simp only [bh,h1]⟩
 ·rename_i t m k ok hop
  obtain ⟨h1⟩:=h
  rw [hop]
  exact .inr ⟨rfl,by simp [bm,dI],by simp only [bh,h1]⟩
 ·obtain ⟨hpu⟩:=h
  exact .inl (tR (fun g w ρ hρ=>kP hρ _) hpu _)
theorem FV {T0:VT} {o:Oper} {s:List TV} {y:TV} (h:Ea P T0 o.op (be G s)=some y):lA P G ⟨[], []⟩ o s y∨(isRead P o.op=true∧bm P o.op (be G s)=none∧bh P T0 o.op (be G s)=some y):=by
 unfold Ea at h
 split at h
 ·rename_i x hx
  injection h with h;subst h
  exact .inl (tR (fun _ _ _ h=>h) hx _)
 ·split at h
  ·rename_i x hx
   injection h with h;subst h
   cases hr:isRead P o.op with
   | false=>rw [hr] at hx;cases hx
   | true=>
    rw [hr] at hx
    simp only [cond_true] at hx
    exact .inr ⟨rfl,by assumption,hx⟩
  ·split at h
   ·rename_i t n ps hop
    left
    intro g w ρ T hT r hρ
    have hm:jv P T o.op (be G s)=some (y,T):=by
     rw [hop]
     simp only [jv,Option.map_eq_some_iff] at h ⊢
     obtain ⟨z,⟨y',h1,h2⟩,h3⟩:=h
     subst h2 h3
     exact ⟨_,h1,rfl⟩
    obtain ⟨v,g',w',h1,h2,h3,h4,h5⟩:=zC (P:=P) r hm hρ
    exact ⟨_,v,g',w',h1,rfl,h2,h3,h4,h5⟩
   ·cases h

def AgreeOut (id off n:Nat) (T1 T2:VT):Prop:=(∀j,j≠id→T1.objs[j]?=T2.objs[j]?)∧(T1.objs[id]?=T2.objs[id]?∨
 (∃c1 c2,T1.objs[id]?=some (.cells c1)∧T2.objs[id]?=some (.cells c2)∧c1.length=c2.length∧∀k,(k<off∨off+n≤k)→c1[k]?=c2[k]?)∨
 (∃c1 c2,T1.objs[id]?=some (.row c1)∧T2.objs[id]?=some (.row c2)∧c1.length=c2.length∧∀k,(k<off∨off+n≤k)→c1[k]?=c2[k]?))
theorem xM {cs new:List TV} {off:Nat} (h:off+new.length≤cs.length):(bS cs off new).length=cs.length∧∀k,(k<off∨off+new.length≤k)→cs[k]?=(bS cs off new)[k]?:=by
  unfold bS
  refine ⟨by simp;omega,fun k hk=> ?_⟩
  have hl:(cs.take off).length=off:=by simp;omega
  rcases hk with hk | hk
  · rw [List.append_assoc,List.getElem?_append_left (by omega),List.getElem?_take,if_pos hk]
  · rw [List.getElem?_append_right (by simp;omega),List.getElem?_drop]
    congr 1
    simp;omega
theorem FW {ro:Nat} {T T' :VT} {t:TypeId} {id off:Nat} {x:TV} {new:List TV} (hn:bu x=some new) (h:u3 P ro T t (.ptr id off) x=some T'):AgreeOut id off new.length T T' ∧T'.objs.length=T.objs.length:=by
 unfold u3 at h
 split at h
 ·rename_i y T1 h1
  injection h with h;subst h
  unfold mu at h1
  simp only [hn] at h1
  split at h1
  ·rename_i cs new' i hid hnew hi
   injection hnew with hnew;subst hnew
   cases hb:(Nat.beq i.size new.length&&Nat.ble (off+new.length) cs.length&&new.all fj&&Nat.ble ro id) with
   | false=>rw [hb] at h1;cases h1
   | true=>
    rw [hb] at h1
    simp only [Bool.and_eq_true] at hb
    have hle:=Nat.le_of_ble_eq_true hb.1.1.2
    injection h1 with h1;injection h1 with _ h1;subst h1
    have hlt:=(List.getElem?_eq_some_iff.1 hid).1
    obtain ⟨k1,k2⟩:=xM hle
    exact ⟨⟨fun j hj=>by simp only [List.getElem?_set];rw [if_neg (fun e=>hj e.symm)], .inr (.inr ⟨cs,_,hid,by simp [hlt],k1.symm,k2⟩)⟩,by simp⟩
  ·cases h1
 ·cases hr:Nat.ble ro id with
  | false=>simp only [hr] at h;cases h
  | true=>
   simp only [hr,cond_true,Option.map_eq_some_iff] at h
   obtain ⟨⟨y,T1⟩,h1,h2⟩:=h
   simp only at h2;subst h2
   unfold mJ at h1
   simp only [hn] at h1
   split at h1
   ·rename_i cs new' i hid hnew hi
    injection hnew with hnew;subst hnew
    split at h1
    ·rename_i hh
     injection h1 with h1;injection h1 with _ h1;subst h1
     have hlt:=(List.getElem?_eq_some_iff.1 hid).1
     obtain ⟨k1,k2⟩:=xM hh.2.1
     exact ⟨⟨fun j hj=>by simp only [List.getElem?_set];rw [if_neg (fun e=>hj e.symm)], .inr (.inl ⟨cs,_,hid,by simp [hlt],k1.symm,k2⟩)⟩,by simp⟩
    ·cases h1
   ·cases h1
theorem AgreeOut.take {id off n m:Nat} {T1 T2:VT} (h:AgreeOut id off n T1 T2):AgreeOut id off n (T1.takeO m) (T2.takeO m):=by
 have e:∀(T:VT) (j:Nat),(T.takeO m).objs[j]?=if j<m then T.objs[j]? else none:=fun T j=>by simp [VT.takeO,List.getElem?_take]
 refine ⟨fun j hj=>by rw [e,e,h.1 j hj], ?_⟩
 rw [e,e]
 by_cases hm:id<m
 ·rw [if_pos hm,if_pos hm];exact h.2
 ·rw [if_neg hm,if_neg hm];exact .inl rfl
theorem tb {c1 c2:List TV} {off n off' m:Nat} (hl:c1.length=c2.length) (h:∀k,(k<off∨off+n≤k)→c1[k]?=c2[k]?) (ha:off' +m≤off∨off+n≤off'):(c1.drop off').take m=(c2.drop off').take m:=by
 apply List.ext_getElem?
 intro k
 rw [List.getElem?_take,List.getElem?_take,List.getElem?_drop,List.getElem?_drop]
 split
 ·exact h _ (by omega)
 ·rfl
theorem Eh {id off n:Nat} {T1 T2:VT} (h:AgreeOut id off n T1 T2) {op:Op} {ev:Operand→TV} (ha:apartRead P id off n op ev=true):bh P T1 op ev=bh P T2 op ev:=by
 have hne:∀id',(!(Nat.beq id' id))=true→T1.objs[id']?=T2.objs[id']?:=fun id' hb=>h.1 id' (by
  rintro rfl
  rw [Nat.beq_refl] at hb;cases hb)
 unfold apartRead at ha
 split at ha
 ·rename_i t a
  simp only [bh,dj]
  split at ha
  ·rename_i id' off' hev
   rw [hev]
   have key:∀m,(P.info? t).map (fun i=>decide (m≤max i.size 1))=some true→dC T1 (.ptr id' off') m=dC T2 (.ptr id' off') m:=by
    intro m hm
    simp only [dC]
    by_cases hid:id' =id
    ·subst hid
     rw [Nat.beq_refl] at ha
     simp only [Bool.not_true,Bool.false_or] at ha
     split at ha
     ·rename_i i hi
      rw [hi] at hm
      simp only [Option.map_some,Option.some.injEq,decide_eq_true_eq] at hm
      have hap:off' +m≤off∨off+n≤off' :=by
       simp only [Bool.or_eq_true] at ha
       rcases ha with ha | ha
       ·have:=Nat.le_of_ble_eq_true ha
        exact .inl (by omega)
       ·exact .inr (Nat.le_of_ble_eq_true ha)
      rcases h.2 with h2 | ⟨c1,c2,h2,h3,h4,h5⟩ | ⟨c1,c2,h2,h3,h4,h5⟩
      ·rw [h2]
      ·rw [h2,h3]
       simp only
       rw [h4,tb h4 h5 hap]
      ·rw [h2,h3]
       simp only
       rw [h4,tb h4 h5 hap]
     ·cases ha
    ·rw [h.1 id' hid]
   unfold j5
   cases hu:P.underlying t with
   | none=>rfl
   | some d=>
    cases hi:P.info? t with
    | none=>rfl
    | some i=>
     simp only
     rw [key i.size (by rw [hi];simp;omega),key 1 (by rw [hi];simp;omega)]
  ·rename_i cs hev
   rw [hev];rfl
  ·cases ha
 ·rename_i t m k ok
  simp only [bh]
  split at ha
  ·rename_i id' hev
   rw [hev]
   unfold fW
   simp only [hne id' ha]
  ·cases ha
 ·rename_i c
  simp only [bh,dj]
  unfold j6
  split at ha
  ·rename_i x hc hx
   simp only [hc,hx]
   split at ha
   ·rename_i id' hev
    split
    ·rename_i t x' h1 h2
     injection h2 with h2;subst h2
     rw [hev]
     unfold ot
     simp only [hne id' ha]
    ·rfl
   ·cases ha
  ·cases ha
 ·cases ha
def gP (g:Gh) (B:Nat→Prop):Gh:={g with fr:=fun b=>g.fr b∨B b}
theorem TokOk.gh {g g' :Gh} {w:World} (ho:g'.obj=g.obj) (ht:g'.tail=g.tail) {tok:Tok} {size n b o c:Nat} (h:TokOk g w tok size n b o c):TokOk g' w tok size n b o c:=by
 cases tok<;>simp only [TokOk] at h ⊢<;>try (exact h)
 ·rw [ht];exact h
 ·rw [ho];exact h
theorem NilTok.gh {g g' :Gh} (ht:g'.tail=g.tail) {tok:Tok} {size:Nat} (h:NilTok g tok size):NilTok g' tok size:=by
 cases tok<;>simp only [NilTok] at h ⊢<;>try (exact h)
 rw [ht];exact h
theorem VR.gh {g g' :Gh} {w:World} (ho:g'.obj=g.obj) (hs:g'.st=g.st) (ht:g'.tail=g.tail) {x:TV} {u:Value} (k:VR g w x u):VR g' w x u:=by
 induction k with
 | val v=>exact .val v
 | dead v=>exact .dead v
 | ptr hb=>exact .ptr (by rw [ho];exact hb)
 | sl hb=>exact .sl (by rw [ho];exact hb)
 | map hb=>exact .map (by rw [ho];exact hb)
 | yld hb=>exact .yld (by rw [ho];exact hb)
 | row hb hl hn hm hc=>exact .row (by rw [ho];exact hb) hl hn hm hc
 | nil hk=>exact .nil (hk.gh ht)
 | odd a hk=>exact .odd a (hk.gh ho ht)
 | vec hn hc hz hk hl h1 hs' hw _ ih=>exact .vec hn hc hz (hk.gh ho ht) hl h1 (fun j hj=>by rw [hs];exact hs' j hj) hw ih
 | elt hl h1 hs' hw _ ih=>exact .elt hl h1 (fun j hj=>by rw [hs];exact hs' j hj) hw ih
 | agg hl _ ih=>exact .agg hl ih
 | tup hl _ ih=>exact .tup hl ih
 | fn hl _ hl2 _ ih ih2=>exact .fn hl ih hl2 ih2
 | ifc _ ih=>exact .ifc ih
theorem VR.toP {g:Gh} {w:World} {B:Nat→Prop} {x:TV} {u:Value} (k:VR g w x u):VR (gP g B) w x u:=VR.gh (g:=g) (g' :=gP g B) rfl rfl rfl k
theorem VR.ofP {g:Gh} {w:World} {B:Nat→Prop} {x:TV} {u:Value} (k:VR (gP g B) w x u):VR g w x u:=VR.gh (g:=gP g B) (g' :=g) rfl rfl rfl k
theorem VRs.gh {g g' :Gh} {w:World} (ho:g'.obj=g.obj) (hs:g'.st=g.st) (ht:g'.tail=g.tail) {xs:List TV} {us:List Value} (k:VRs g w xs us):VRs g' w xs us:=⟨k.1,fun j x u hx hu=>(k.2 j x u hx hu).gh ho hs ht⟩
theorem OR.gh {g g' :Gh} {w:World} (ho:g'.obj=g.obj) (hs:g'.st=g.st) (ht:g'.tail=g.tail) {b:Nat} {o:VO} (h:OR g w b o):OR g' w b o:=by
 cases o with
 | cells cs=>obtain ⟨us,t,h1,h2,h3⟩:=h;exact ⟨us,t,h1,h2.gh ho hs ht,h3⟩
 | row cs=>obtain ⟨us,t,h1,h2,h3,h4⟩:=h;exact ⟨us,t,h1,h2,h3.gh ho hs ht,h4⟩
 | map sh look es ck=>obtain ⟨ms,h1,h2,h3,h4⟩:=h;exact ⟨ms,h1,h2,h3.gh ho hs ht,h4⟩
 | iter m since seen stepped=>obtain ⟨mb,h1,h2⟩:=h;exact ⟨mb,h1,h2.gh ho hs ht⟩
 | siter s pos=>exact h
 | loop st pend σ ps asg body=>obtain ⟨us,fn,db,h1,h2⟩:=h;exact ⟨us,fn,db,h1,h2.gh ho hs ht⟩
 | defd=>exact h
 | gone=>trivial
theorem RW.frs {g g' :Gh} {T:VT} {w:World} (r:RW g T w) (ho:g'.obj=g.obj) (hs:g'.st=g.st) (ht:g'.tail=g.tail)
  (hf:∀b,g'.fr b→b<w.heap.size∧(g.fr b∨((∀(id:Nat) o,T.objs[id]?=some o→o.live=true→g.obj id≠some b)∧∀(k:Nat) x,g.tail k=some x→¬x.has b))):RW g' T w:=by
 refine ⟨?_, ?_, ?_, ?_,fun b h=>(hf b h).1, ?_, ?_, ?_, ?_, ?_, ?_, ?_⟩
 ·intro id o h hl
  obtain ⟨b,h1,h2,h3,h4⟩:=r.obj id o h hl
  refine ⟨b,by rw [ho];exact h1,h2.gh ho hs ht,fun hb=> ?_,fun o=>by rw [hs];exact h4 o⟩
  rcases (hf b hb).2 with h5 | h5
  ·exact h3 h5
  ·exact h5.1 id o h hl h1
 ·intro i j oi oj b h1 l1 h2 l2 b1 b2
  rw [ho] at b1 b2
  exact r.inj i j oi oj b h1 l1 h2 l2 b1 b2
 ·intro id hid;rw [ho];exact r.out id hid
 ·intro b o h;rw [hs] at h;exact r.st b o h
 ·intro k p h
  obtain ⟨x,h1,h2,h3,h4⟩:=r.tl k p h
  refine ⟨x,by rw [ht];exact h1,h2,h3,fun b o hi=> ?_⟩
  obtain ⟨h5,h6,h7,h8⟩:=h4 b o hi
  refine ⟨h5,h6,by rw [hs];exact h7,fun hb=> ?_⟩
  rcases (hf b hb).2 with h9 | h9
  ·exact h8 h9
  ·exact h9.2 k x h1 (.inl ⟨o,hi⟩)
 ·intro k hk;rw [ht];exact r.tout k hk
 ·intro i j x y b h1 h2;rw [ht] at h1 h2;exact r.tinj i j x y b h1 h2
 ·intro i oi b k x h1 l1 b1 hx;rw [ho] at b1;rw [ht] at hx;exact r.tobj i oi b k x h1 l1 b1 hx
 ·intro k x hx
  rw [ht] at hx
  intro h1 h2
  obtain ⟨h3,h4,h5,h6,h7⟩:=r.own k x hx h1 h2
  refine ⟨h3,h4,h5,h6,fun hb=> ?_⟩
  rcases (hf x.b hb).2 with h8 | h8
  ·exact h7 h8
  ·exact h8.2 k x hx (.inr ⟨h1,h2,rfl⟩)
 ·intro k x hx;rw [ht] at hx;exact r.own0 k x hx
 ·intro k x hx;rw [ht] at hx;exact r.tlo k x hx
theorem RW.lessFr {g g' :Gh} {T:VT} {w:World} (r:RW g T w) (ho:g'.obj=g.obj) (hs:g'.st=g.st) (ht:g'.tail=g.tail) (hf:∀b,g'.fr b→g.fr b):RW g' T w:=
 r.frs ho hs ht fun b h=>⟨r.fr b (hf b h), .inl (hf b h)⟩
theorem Evo.base {g g1:Gh} {w w1:World} {B:Nat→Prop} (e:Evo (gP g B) w g1 w1):∃g',g1=gP g' B∧g'.fr=g.fr∧Evo g w g' w1∧(∀b,B b→w1.heap[b]?=w.heap[b]?)∧∀b o,B b→g'.st b o→g.st b o:=by
 have hfr:=e.fr
 refine ⟨{g1 with fr:=g.fr}, ?_,rfl,⟨e.os,e.tape,e.output,e.size,e.obj,e.st,rfl,fun b hb=>e.frb b (.inl hb),fun b o hb h=>e.frs b o (.inl hb) h,e.tail,e.tnew,e.csz⟩,fun b hb=>e.frb b (.inr hb),fun b o hb h=>e.frs b o (.inr hb) h⟩
 cases g1
 simp only [gP] at hfr ⊢
 rw [hfr]
theorem RW.off {g:Gh} {T:VT} {w w' :World} {b:Nat} (r:RW g T w) (hfr:g.fr b) (hst:∀o,¬g.st b o) (hos:w'.os=w.os∧w'.tape=w.tape∧w'.output=w.output) (hsz:w'.heap.size=w.heap.size) (hoth:∀c,c≠b→w'.heap[c]?=w.heap[c]?) (hcs:bD w' b=bD w b):
  RW g T w' ∧∀g0:Gh,g0.st=g.st→¬g0.fr b→Evo g0 w g0 w' :=by
 have cellne:∀c p,c≠b→w'.cell? ⟨c,p,none⟩=w.cell? ⟨c,p,none⟩:=fun c p hc=>by unfold World.cell?;simp only [hoth c hc]
 have frzne:∀c p,c≠b→w'.frozen? ⟨c,p,none⟩=w.frozen? ⟨c,p,none⟩:=fun c p hc=>by unfold World.frozen?;simp only [hoth c hc]
 have csz:∀c,bD w' c=bD w c:=fun c=>by
  by_cases hc:c=b
  ·subst hc;exact hcs
  ·unfold bD;rw [hoth c hc]
 have ev:∀g0:Gh,g0.st=g.st→¬g0.fr b→Evo g0 w g0 w' :=fun g0 h1 h2=>
  ⟨hos.1,hos.2.1,hos.2.2,by omega,fun _ _ h=>h,fun c p hs=>⟨hs,cellne c p (by rintro rfl;rw [h1] at hs;exact hst p hs)⟩,rfl,fun c hc=>hoth c (by rintro rfl;exact h2 hc),fun _ _ _ h=>h,fun _ x h=>⟨x,h, .inl rfl,rfl,rfl⟩,(fun _ _ h h' =>nomatch (h.symm.trans h')),fun c _=>csz c⟩
 refine ⟨?_,ev⟩
 have e0:Evo {g with fr:=fun c=>g.fr c∧c≠b} w {g with fr:=fun c=>g.fr c∧c≠b} w' :=ev _ rfl (fun h=>h.2 rfl)
 refine ⟨?_,r.inj,r.out, ?_,fun c h=>by rw [hsz];exact r.fr c h, ?_,r.tout,r.tinj,r.tobj, ?_,r.own0,fun k x hx=>by rw [hsz];exact r.tlo k x hx⟩
 ·intro id o h hl
  obtain ⟨c,h1,h2,h3,h4⟩:=r.obj id o h hl
  have hcb:c≠b:=by rintro rfl;exact h3 hfr
  refine ⟨c,h1, ?_,h3,h4⟩
  have h5:OR {g with fr:=fun c=>g.fr c∧c≠b} w c o:=OR.gh (g:=g) (g' :={g with fr:=fun c=>g.fr c∧c≠b}) rfl rfl rfl h2
  exact OR.gh (g:={g with fr:=fun c=>g.fr c∧c≠b}) (g' :=g) rfl rfl rfl (OR.mono e0 (hoth c hcb) h5)
 ·intro c o h
  have hcb:c≠b:=by rintro rfl;exact hst o h
  rw [cellne c o hcb];exact r.st c o h
 ·intro k p h
  obtain ⟨x,h1,h2,h3,h4⟩:=r.tl k p h
  refine ⟨x,h1,h2,h3,fun c o hi=> ?_⟩
  obtain ⟨h5,h6,h7,h8⟩:=h4 c o hi
  have hcb:c≠b:=by rintro rfl;exact h8 hfr
  exact ⟨by rw [cellne c o hcb];exact h5,by rw [frzne c o hcb];exact h6,h7,h8⟩
 ·intro k x hx h1 h2
  obtain ⟨⟨cur,h3,h3'⟩,h4,h5,h6,h7⟩:=r.own k x hx h1 h2
  have hcb:x.b≠b:=fun e=>h7 (e▸hfr)
  exact ⟨⟨cur,by rw [hoth _ hcb];exact h3,h3'⟩,h4,h5,h6,h7⟩

structure FX (P:Program) (o:Oper) (blk:Obj) (f:Nat→Value) (vo:VO) (mk:Nat→TV):Prop where
 run:∀(ρ:Operand→Value) w,(∀v,ρ (.const v)=v)→(execOp ρ o).run P w= .ok (.value (f w.heap.size)) (w.alloc blk)
 live:vo.live=true
 or:∀g w b,w.heap[b]?=some blk→OR g w b vo
 vr:∀g w id b,g.obj id=some b→b<w.heap.size→w.heap[b]?=some blk→VR g w (mk id) (f b)
theorem FY {o:Oper} {T0:VT} (h:(gL P T0 o.op).isSome=true):∃blk f vo mk,FX P o blk f vo mk∧∀T,gL P T o.op=some (mk T.objs.length,{T with objs:=T.objs++ [vo]}):=by
  obtain ⟨dst,op,ty,pos,af,gd⟩:=o
  simp only at h
  cases op<;>simp only [gL] at h<;>try (cases h)
  case alloc t=>
    unfold lv at h
    cases hi:P.info? t with
    | none=>rw [hi] at h;cases h
    | some i=>
      cases hz:i.zero with
      | none=>rw [hi] at h;simp only [hz] at h;cases h
      | some z=>
        rw [hi] at h
        simp only [hz,qy] at h
        by_cases hc:(z.cells.toList.map TV.val).all fj=true
        · refine ⟨.cells z.cells t,fun b=> .pointer (some ⟨b,0,none⟩), .cells (z.cells.toList.map .val),fun id=> .ptr id 0,⟨fun ρ w _=> ?_,rfl,fun g w b hb=> ?_,fun g w id b hb _ _=> .ptr hb⟩,fun T=> ?_⟩
          · simp [execOp,Instr.alloc,zeroValue,typeInfo,hi,hz,newVar,newRow]
          · exact ⟨z.cells.toList,t,by simpa using hb,VRs.vals g w _,jO hc (VRs.vals g w _)⟩
          · simp only [gL,lv,hi,hz,qy,hc,if_true]
        · rw [if_neg hc] at h;cases h
  case makeMap t r=>
    cases r with
    | some r=>cases h
    | none=>
      simp only [kK] at h
      cases hu:P.underlying t with
      | none=>rw [hu] at h;cases h
      | some d=>
        rw [hu] at h
        cases d<;>simp only at h<;>try (cases h)
        rename_i kt et
        cases hs:fe P kt with
        | none=>rw [hs] at h;cases h
        | some sh=>
          refine ⟨.map #[] 0,fun b=> .map (some b), .map sh (fun _=>none) [] 0,fun id=> .map id,⟨fun ρ w _=> ?_,rfl,fun g w b hb=> ?_,fun g w id b hb _ _=> .map hb⟩,fun T=> ?_⟩
          · simp [execOp,Instr.makeMap,newObj,Sem.run]
          · exact ⟨#[],hb,by simp,by simpa using VRs.nil g _,by simp,by simp,by simp,fun k _=>rfl⟩
          · simp only [gL,kK,hu,hs]
  case makeSlice t l c=>
    cases l<;>try (cases h)
    rename_i l
    cases c<;>try (cases h)
    rename_i c
    replace h:(mO P T0 t (.val l) (.val c)).isSome=true:=h
    unfold mO at h
    split at h
    · rename_i kl l' kc c' e h1 h2 hu
      injection h1 with h1;injection h2 with h2;subst h1 h2
      split at h
      · rename_i i hi
        split at h
        · rename_i z hz
          cases hb:(decide (0≤l')&&decide (l' ≤c')&&decide ((i.bytes:Int)*c' ≤281474976710656)&&decide (c' ≤140737488355328)&&z.cells.toList.all Value.oneCell' &&decide (0<z.cells.size)) with
          | false=>rw [hb] at h;cases h
          | true=>
            have hb' :=hb
            simp only [Bool.and_eq_true,decide_eq_true_eq] at hb
            obtain ⟨⟨⟨⟨⟨h0,h1⟩,h2⟩,h3⟩,h4⟩,h5⟩:=hb
            have hlc:l'.toNat*i.size≤c'.toNat*i.size:=Nat.mul_le_mul_right _ (by omega)
            have hlen:((gX z.cells (l'.toNat*i.size)).map TV.val).length=l'.toNat*i.size:=by simp [gX]
            refine ⟨.cells (madeCells z.cells (c'.toNat*i.size)) e,fun b=> .slice (some ⟨b,0,none⟩) l'.toNat c'.toNat, .row ((gX z.cells (l'.toNat*i.size)).map .val),fun id=> .row i.size id 0 l'.toNat,⟨fun ρ w hρ=> ?_,rfl,fun g w b hb=> ?_,fun g w id b hb hlt hblk=> ?_⟩,fun T=> ?_⟩
            · have hrun:=run_make (P:=P) w t e i z hu hi hz kl kc l' c' h0 h1 h2 (by omega)
              simp [execOp,hρ,hrun]
            · refine ⟨(madeCells z.cells (c'.toNat*i.size)).toList,e,by simpa using hb, ?_, ?_, ?_⟩
              · rw [hlen];simp [size_madeCells];exact hlc
              · rw [hlen,nQ hlc];exact VRs.vals g _ _
              · intro u hu
                have hu:=List.mem_of_mem_take hu;rw [Array.mem_toList_iff] at hu
                obtain ⟨j,hj,rfl⟩:=Array.getElem_of_mem hu
                have:(madeCells z.cells (c'.toNat*i.size))[j]=z.cells[j%z.cells.size]'(Nat.mod_lt _ h5):=by
                  simp only [madeCells,Array.getElem_map,Array.getElem_range]
                  exact getElem!_pos z.cells (j%z.cells.size) (Nat.mod_lt _ h5)
                rw [this]
                exact List.all_eq_true.1 h4 _ (Array.mem_toList_iff.2 (Array.getElem_mem _))
            · have hcz:bD w b=c'.toNat*i.size:=by rw [bK hblk,size_madeCells]
              have:=VR.row (g:=g) (w:=w) (size:=i.size) (id:=id) (off:=0) (n:=l'.toNat) (b:=b) (c:=c'.toNat) hb hlt (by omega) (by unfold maxLen;omega) (by rw [hcz,Nat.zero_add])
              rw [Nat.zero_mul] at this
              exact this
            · simp only [gL,mO,hu,hi,hz,hb',cond_true,VT.newRow]
        · cases h
      · cases h
    · cases h
end
end
section
open Go.RowKit

section
variable {P:Program} {G:aU} {F:iW} {ops:Array Oper} {r:Option Nat}
abbrev On (V:Array Bool) (k:Nat):Prop:=V.getD k false=true
theorem b8 {V:Array Bool} {i k:Nat} (h:On V k):On (V.setIfInBounds i true) k:=getD_set_true h
theorem jT {V:Array Bool} {i:Nat} (h:i<V.size):On (V.setIfInBounds i true) i:=by simp [On,h]
theorem bk {V:Array Bool} {i k:Nat} (h:i≠k) (hk:On (V.setIfInBounds i true) k):On V k:=by unfold On at*;rwa [getD_set_ne false h] at hk
theorem fq {V:Array Bool} {k:Nat} (h:V.getD k true=false):¬On V k:=by
 intro h'
 unfold On at h'
 rcases Nat.lt_or_ge k V.size with hk | hk
 ·simp [hk] at h h';rw [h] at h';cases h'
 ·simp [Array.getElem?_eq_none hk] at h'
theorem FZ {V:Array Bool} {k:Nat} (hk:k<V.size) (h:¬On V k):V.getD k true=false:=by
 unfold On at h
 simp [hk] at h ⊢;exact h
theorem bI:∀{l:List Nat} {i:Nat},inList l i=true ↔ i∈l
 | [],i=>by simp [inList]
 | a::l,i=>by
  simp only [inList,Bool.or_eq_true,List.mem_cons,bI (l:=l)]
  constructor
  ·rintro (h | h)
   ·exact .inl (Nat.eq_of_beq_eq_true h).symm
   ·exact .inr h
  ·rintro (h | h)
   ·subst h;exact .inl (Nat.beq_refl i)
   ·exact .inr h
theorem xN (L:List Nat):∀(n:Nat) (σ:List TV) (s:Nat),(nT L n σ)[s]?=(σ[s]?).map fun x=>bif inList L (n+s) then x else .dead
 | _, [],s=>by simp [nT]
 | n,x::σ,0=>by simp [nT]
 | n,x::σ,s+1=>by
  simp only [nT,List.getElem?_cons_succ]
  rw [xN L (n+1) σ s,show n+1+s=n+(s+1) by omega]
theorem mR (o:Oper) (σ:List TV) (s:Nat):(only ops o σ)[s]?=(σ[s]?).map fun x=>bif inList (o.looksAt ops) s then x else .dead:=by
 have:=xN (o.looksAt ops) 0 σ s
 rw [Nat.zero_add] at this;exact this
theorem IQ (o:Oper) (σ:List TV):(only ops o σ).length=σ.length:=by
 have key:∀(L:List Nat) (n:Nat) (σ:List TV),(nT L n σ).length=σ.length:=by
  intro L n σ
  induction σ generalizing n with
  | nil=>rfl
  | cons x σ ih=>simp [nT,ih]
 exact key _ _ _
theorem kR (σ:List TV) (d:Option Tmp) (y:TV) (s:Nat):(bx σ d y)[s]?=if d=some s∧s<σ.length then some y else σ[s]?:=by
 cases d with
 | none=>simp [bx]
 | some d=>
  simp only [bx,List.getElem?_set]
  by_cases h:d=s
  ·subst h
   by_cases hl:d<σ.length
   ·simp [hl]
   ·simp [hl,List.getElem?_eq_none (Nat.le_of_not_lt hl)]
  ·simp [h]
theorem tS (σ:List TV) (d:Option Tmp) (y:TV):(bx σ d y).length=σ.length:=by cases d<;>simp [bx]
theorem mD (a:Act) (d:Option Tmp) (v:Value) (s:Nat):(a.put d v).tmps.toList[s]?=if d=some s∧s<a.tmps.toList.length then some v else a.tmps.toList[s]?:=by
 cases d with
 | none=>simp [Act.put]
 | some d=>
  simp only [Act.put,Array.toList_setIfInBounds,List.getElem?_set]
  by_cases h:d=s
  ·subst h
   by_cases hl:d<a.tmps.size
   ·simp [hl]
   ·simp [hl,Array.getElem?_eq_none (Nat.le_of_not_lt hl)]
  ·simp [h]
theorem CD (a:Act) (d:Option Tmp) (v:Value):(a.put d v).tmps.toList.length=a.tmps.toList.length:=by cases d<;>simp [Act.put]
theorem mS {o:Oper} {σ:List TV} {d:Option Tmp} {y:TV} (h:∀s,d=some s→inList (o.looksAt ops) s=false):only ops o (bx σ d y)=only ops o σ:=by
 apply List.ext_getElem?
 intro s
 rw [mR,mR,kR]
 by_cases hs:d=some s∧s<σ.length
 ·rw [if_pos hs,h s hs.1,List.getElem?_eq_getElem hs.2];rfl
 ·rw [if_neg hs]
theorem dL (h:qI ops=true) {i:Nat} {o:Oper} {d:Tmp} (hi:ops[i]?=some o) (hd:o.dst=some d):
    inList (o.looksAt ops) d=false∧∀(j:Nat) oj,ops[j]?=some oj→j≠i→oj.dst≠some d∧(inList (oj.looksAt ops) d=true→∃e∈oj.after,Region.binds .any e=true∧e.on=i):=by
  have hlt:=(Array.getElem?_eq_some_iff.1 hi).1
  have h1:=List.all_eq_true.1 h i (List.mem_range.2 hlt)
  simp only [hi,hd,Bool.and_eq_true,Bool.not_eq_true'] at h1
  refine ⟨h1.1,fun j oj hj hne=> ?_⟩
  have h2:=List.all_eq_true.1 h1.2 j (List.mem_range.2 (Array.getElem?_eq_some_iff.1 hj).1)
  simp only [hj,Bool.or_eq_true,Bool.and_eq_true,Bool.not_eq_true'] at h2
  rcases h2 with h2 | ⟨h2,h3⟩
  · exact absurd (Nat.eq_of_beq_eq_true h2) hne
  · refine ⟨fun e=> ?_,fun hl=> ?_⟩
    · rw [e] at h2;simp at h2
    · rcases h3 with h3 | h3
      · rw [hl] at h3;cases h3
      · obtain ⟨e,he,h4⟩:=List.any_eq_true.1 h3
        simp only [Bool.and_eq_true] at h4
        exact ⟨e,Array.mem_toList_iff.1 he,h4.1,Nat.eq_of_beq_eq_true h4.2⟩
theorem mT (h:qI ops=true) {X:Array Bool} {j:Nat} {oj:Oper} (hj:ops[j]?=some oj) (hdeps:∀e∈oj.after,Region.binds .any e=true→On X e.on) {s:Nat} (hs:inList (oj.looksAt ops) s=true) {k:Nat} {ok:Oper} (hk:ops[k]?=some ok) (hd:ok.dst=some s):k≠j∧On X k:=by
 obtain ⟨h1,h2⟩:=dL h hk hd
 by_cases hkj:j=k
 ·subst hkj
  rw [hj] at hk;injection hk with hk;subst hk
  rw [hs] at h1;cases h1
 ·obtain ⟨e,he,hb,hon⟩:=(h2 j oj hj hkj).2 hs
  exact ⟨fun h=>hkj h.symm,hon▸hdeps e he hb⟩
def RelV (ops:Array Oper) (V R:Array Bool) (g:Gh) (w:World) (σ:List TV) (tm:List Value):Prop:=
 tm.length=σ.length∧∀(s:Nat) x u,σ[s]?=some x→tm[s]?=some u→(∀(k:Nat) o,ops[k]?=some o→o.dst=some s→On V k∧On R k)→VR g w x u
theorem RelV.only {V R:Array Bool} {g:Gh} {w:World} {σ:List TV} {tm:List Value} (h:RelV ops V R g w σ tm) {o:Oper} (hl:∀s,inList (o.looksAt ops) s=true→∀(k:Nat) ok,ops[k]?=some ok→ok.dst=some s→On V k∧On R k):VRs g w (only ops o σ) tm:=by
 refine ⟨by rw [IQ];exact h.1,fun s x u hx hu=> ?_⟩
 rw [mR] at hx
 cases hs:σ[s]? with
 | none=>rw [hs] at hx;cases hx
 | some z=>
  rw [hs] at hx
  simp only [Option.map_some,Option.some.injEq] at hx
  cases hb:inList (o.looksAt ops) s with
  | true=>rw [hb] at hx;simp only [cond_true] at hx;subst hx;exact h.2 s z u hs hu (hl s hb)
  | false=>rw [hb] at hx;simp only [cond_false] at hx;subst hx;exact .dead u
def Owed (P:Program) (G:aU) (ops:Array Oper) (T0:VT) (pend:List Nat) (k:Nat) (o:Oper) (σ:List TV):Prop:=ce o.op=true∧
 ((bX ops (only ops o σ) o=some false∧∀d x,o.dst=some d→σ[d]?=some x→x= .val undef)∨
 (bX ops (only ops o σ) o=some true∧∃y,(∀d x,o.dst=some d→σ[d]?=some x→x=y)∧(lA P G ⟨[], []⟩ o (only ops o σ) y∨(k∈pend∧bm P o.op (be G (only ops o σ))=none∧bh P T0 o.op (be G (only ops o σ))=some y))))
def PB (prot:Nat→Option Nat) (b:Nat):Prop:=∃k,prot k=some b
def FlSt (P:Program) (G:aU) (ops:Array Oper) (σ:List TV) (R:Array Bool) (g:Gh) (w:World) (tm:List Value) (prot:Nat→Option Nat) (i:Nat) (jo:Option Nat):Prop:=
 ∃o d b,ops[i]?=some o∧o.dst=some d∧prot i=some b∧(match jo with
  | none=>∃blk f vo mk,FX P o blk f vo mk∧(∀T,gL P T o.op=some (mk T.objs.length,{T with objs:=T.objs++ [vo]}))∧w.heap[b]?=some blk∧∀u,tm[d]?=some u→u=f b
  | some j=>∃oj t us inf,ops[j]?=some oj∧w.heap[b]?=some (.cells us.toArray t (0,0))∧(∀u,tm[d]?=some u→u= .pointer (some ⟨b,0,none⟩))∧o.op= .alloc t∧P.info? t=some inf∧us.length=inf.size∧
   (On R j→∃new,mA P o.op oj.op (be G (only ops oj σ))=some new∧VRs g w new us∧∀u∈us,u.oneCell' =true))
structure VInv (P:Program) (G:aU) (ops:Array Oper) (flo:List (Nat × Option Nat)) (σ:List TV) (T T0:VT) (V R:Array Bool) (pend:List Nat) (g:Gh) (w:World) (tm:List Value) (prot:Nat→Option Nat):Prop where
 vs:V.size=ops.size
 rs:R.size=ops.size
 cv:Closed ops V
 cr:Closed ops R
 rv:∀k,On R k→¬On V k→k∈bW flo
 vf:∀k∈bW flo,On V k→On R k
 vb:∀i j,(i,some j)∈flo→(On V i ↔ On V j)
 rel:RelV ops V R g w σ tm
 own:∀(k:Nat) o,ops[k]?=some o→On V k→¬On R k→Owed P G ops T0 pend k o σ
 flt:∀i jo,(i,jo)∈flo→On R i→¬On V i→FlSt P G ops σ R g w tm prot i jo
 pr:∀k b,prot k=some b→(∃jo,(k,jo)∈flo)∧On R k∧¬On V k∧¬g.fr b∧(∀o,¬g.st b o)∧b<w.heap.size
 pinj:∀i j b,prot i=some b→prot j=some b→i=j
 rw:RW (gP g (PB prot)) T w
 t0:T.objs.take T0.objs.length=T0.objs
structure VStat (P:Program) (ops:Array Oper) (flo:List (Nat × Option Nat)):Prop where
 flow:fg ops=true
 once:qI ops=true
 dup:uX (bW flo)=true
 flo:FN P ops flo (bW flo)=true
theorem pJ:∀{l:List Nat},uX l=true→l.Nodup
 | [],_=>List.nodup_nil
 | a::l,h=>by
  simp only [uX,Bool.and_eq_true,Bool.not_eq_true'] at h
  exact List.nodup_cons.2 ⟨fm h.1,pJ h.2⟩
theorem cd:∀{flo:List (Nat × Option Nat)} {k:Nat},k∈bW flo ↔ ∃i jo,(i,jo)∈flo∧(k=i∨jo=some k)
  | [],k=>by simp [bW]
  | (i,none)::l,k=>by
    simp only [bW,List.mem_cons,cd (flo:=l)]
    constructor
    · rintro (rfl | ⟨i',jo,h1,h2⟩)
      · exact ⟨k,none, .inl rfl, .inl rfl⟩
      · exact ⟨i',jo, .inr h1,h2⟩
    · rintro ⟨i',jo,h1 | h1,h2⟩
      · injection h1 with h1 h3;subst h1 h3
        rcases h2 with h2 | h2
        · exact .inl h2
        · cases h2
      · exact .inr ⟨i',jo,h1,h2⟩
  | (i,some j)::l,k=>by
    simp only [bW,List.mem_cons,cd (flo:=l)]
    constructor
    · rintro (rfl | rfl | ⟨i',jo,h1,h2⟩)
      · exact ⟨k,some j, .inl rfl, .inl rfl⟩
      · exact ⟨i,some k, .inl rfl, .inr rfl⟩
      · exact ⟨i',jo, .inr h1,h2⟩
    · rintro ⟨i',jo,h1 | h1,h2⟩
      · injection h1 with h1 h3;subst h1 h3
        rcases h2 with h2 | h2
        · exact .inl h2
        · injection h2 with h2;exact .inr (.inl h2.symm)
      · exact .inr (.inr ⟨i',jo,h1,h2⟩)
theorem fF:∀{flo:List (Nat × Option Nat)},(bW flo).Nodup→∀{i jo i' jo' k},(i,jo)∈flo→(i',jo')∈flo→(k=i∨jo=some k)→(k=i' ∨jo' =some k)→i=i' ∧jo=jo'
  | [],_,_,_,_,_,_,h,_,_,_=>by cases h
  | (a,b)::l,hn,i,jo,i',jo',k,h1,h2,k1,k2=>by
    have hl:(bW l).Nodup∧∀k,(k=a∨b=some k)→k∉bW l:=by
      cases b with
      | none=>
        have:=List.nodup_cons.1 hn
        refine ⟨this.2,fun k hk=> ?_⟩
        rcases hk with rfl | hk
        · exact this.1
        · cases hk
      | some j=>
        have h3:=List.nodup_cons.1 hn
        have h4:=List.nodup_cons.1 h3.2
        refine ⟨h4.2,fun k hk=> ?_⟩
        rcases hk with rfl | hk
        · exact fun h=>h3.1 (List.mem_cons_of_mem _ h)
        · injection hk with hk;subst hk;exact h4.1
    rcases List.mem_cons.1 h1 with e1 | m1<;>rcases List.mem_cons.1 h2 with e2 | m2
    · injection e1 with e1 e1';injection e2 with e2 e2';subst e1 e1' e2 e2';exact ⟨rfl,rfl⟩
    · injection e1 with e1 e1';subst e1 e1'
      exact absurd ((cd (flo:=l)).2 ⟨i',jo',m2,k2⟩) (hl.2 k k1)
    · injection e2 with e2 e2';subst e2 e2'
      exact absurd ((cd (flo:=l)).2 ⟨i,jo,m1,k1⟩) (hl.2 k k2)
    · exact fF hl.1 m1 m2 k1 k2
theorem VStat.at {flo:List (Nat × Option Nat)} (st:VStat P ops flo) {i:Nat} {jo:Option Nat} (h:(i,jo)∈flo):∃o,ops[i]?=some o∧oQ P o=true∧∀j,jo=some j→∃oj,ops[j]?=some oj∧oR P o oj=true∧(∃e∈oj.after,Region.binds .any e=true∧e.on=i)∧∀e∈oj.after,Region.binds .any e=true→e.on=i∨e.on∉bW flo∨boxStore flo e.on=true:=by
 have h1:=List.all_eq_true.1 st.flo (i,jo) h
 simp only at h1
 split at h1
 ·rename_i o ho
  simp only [Bool.and_eq_true] at h1
  refine ⟨o,ho,h1.1,fun j hj=> ?_⟩
  subst hj
  have h2:=h1.2
  simp only at h2
  split at h2
  ·rename_i oj hoj
   simp only [Bool.and_eq_true] at h2
   obtain ⟨⟨h3,h4⟩,h5⟩:=h2
   obtain ⟨e,he,h6⟩:=List.any_eq_true.1 h4
   simp only [Bool.and_eq_true] at h6
   refine ⟨oj,hoj,h3,⟨e,Array.mem_toList_iff.1 he,h6.1,Nat.eq_of_beq_eq_true h6.2⟩,fun e he hb=> ?_⟩
   have h7:=List.all_eq_true.1 h5 e (Array.mem_toList_iff.2 he)
   simp only [hb,Bool.not_true,Bool.false_or,Bool.or_eq_true,Bool.not_eq_true'] at h7
   rcases h7 with (h7 | h7) | h7
   ·exact .inl (Nat.eq_of_beq_eq_true h7)
   ·exact .inr (.inl (fm h7))
   ·exact .inr (.inr h7)
  ·cases h2
 ·cases h1
theorem zX {flo:List (Nat × Option Nat)} {k:Nat} (h:boxStore flo k=true):∃i,(i,some k)∈flo:=by
 obtain ⟨p,hp,h1⟩:=List.any_eq_true.1 h
 obtain ⟨i,jo⟩:=p
 cases jo with
 | none=>cases h1
 | some j=>
  have:=Nat.eq_of_beq_eq_true h1
  subst this
  exact ⟨i,hp⟩
theorem RelV.step {V R:Array Bool} {g g' :Gh} {w w' :World} {σ:List TV} {a:Act} (h:RelV ops V R g w σ a.tmps.toList) (e:Evo g w g' w') {j:Nat} {o:Oper} (ho:ops[j]?=some o) {v:Value}
  (hx:∀d x,o.dst=some d→σ[d]?=some x→On V j→VR g' w' x v):RelV ops V (R.setIfInBounds j true) g' w' σ (a.put o.dst v).tmps.toList:=by
 refine ⟨by rw [CD];exact h.1,fun s x u hs hu hw=> ?_⟩
 rw [mD] at hu
 by_cases hd:o.dst=some s∧s<a.tmps.toList.length
 ·rw [if_pos hd] at hu
  injection hu with hu;subst hu
  exact hx s x hd.1 hs (hw j o ho hd.1).1
 ·rw [if_neg hd] at hu
  refine (h.2 s x u hs hu fun k ok hk hdk=> ?_).mono e
  obtain ⟨h1,h2⟩:=hw k ok hk hdk
  refine ⟨h1,bk (fun hjk=> ?_) h2⟩
  subst hjk
  rw [ho] at hk;injection hk with hk;subst hk
  exact hd ⟨hdk,(List.getElem?_eq_some_iff.1 hu).1⟩
theorem FlSt.step {σ:List TV} {R R' :Array Bool} {g g' :Gh} {w w' :World} {a:Act} {prot prot' :Nat→Option Nat} {i:Nat} {jo:Option Nat} (h:FlSt P G ops σ R g w a.tmps.toList prot i jo) (e:Evo g w g' w') (hh:∀b,prot i=some b→w'.heap[b]?=w.heap[b]?) (hp:prot' i=prot i)
  {d' :Option Tmp} {v:Value} (hd:∀o d,ops[i]?=some o→o.dst=some d→d' ≠some d) (hr:∀j,jo=some j→On R' j→On R j):FlSt P G ops σ R' g' w' (a.put d' v).tmps.toList prot' i jo:=by
 obtain ⟨o,d,b,h1,h2,h3,h4⟩:=h
 have ht:∀u,(a.put d' v).tmps.toList[d]?=some u→a.tmps.toList[d]?=some u:=fun u hu=>by
  rw [mD,if_neg fun k=>hd o d h1 h2 k.1] at hu;exact hu
 refine ⟨o,d,b,h1,h2,hp.trans h3, ?_⟩
 cases jo with
 | none=>
  obtain ⟨blk,f,vo,mk,k1,k2,k3,k4⟩:=h4
  exact ⟨blk,f,vo,mk,k1,k2,(hh b h3).trans k3,fun u hu=>k4 u (ht u hu)⟩
 | some j=>
  obtain ⟨oj,t,us,inf,k1,k2,k3,k4,k5,k6,k7⟩:=h4
  refine ⟨oj,t,us,inf,k1,(hh b h3).trans k2,fun u hu=>k3 u (ht u hu),k4,k5,k6,fun hj=> ?_⟩
  obtain ⟨new,q1,q2,q3⟩:=k7 (hr j rfl hj)
  exact ⟨new,q1,q2.mono e,q3⟩
end
end
section
open Go.RowKit

section
variable {P:Program} {G:aU} {F:iW} {ops:Array Oper} {r:Option Nat} {flo:List (Nat × Option Nat)} {σ:List TV} {T T0:VT} {V R:Array Bool} {pend:List Nat} {g:Gh} {w:World} {a:Act} {prot:Nat→Option Nat}
theorem tc {QQ:Exit→Act→World→Prop} {j:Nat} {o:Oper} (ho:ops[j]?=some o) (hw:Region.wanted o (yielded ops a.tmps)=false) {K:Act→World→Prop} (h:K (a.put o.dst undef) w):wpOpIn (cP r) 0 P ops QQ j K a w:=by
 unfold wpOpIn
 simp only [ho]
 rw [if_neg (by rw [hw];exact Bool.false_ne_true)]
 exact ⟨fun _ _=>trivial,h⟩
theorem pK {QQ:Exit→Act→World→Prop} {j:Nat} {o:Oper} (hd:ce o.op=true) (ho:ops[j]?=some o) (hw:Region.wanted o (yielded ops a.tmps)=true) {m:Next} {v:Value} {w' :World} (hrun:(execOp a.eval o).run P w= .ok m w') (hv:gJ m=some v)
  {K:Act→World→Prop} (h:∀v,gJ m=some v→K (a.put o.dst v) w'):wpOpIn (cP r) 0 P ops QQ j K a w:=by
 have hne:∀c,o.op≠ .defer c:=fun c hc=>by rw [hc] at hd;cases hd
 unfold wpOpIn
 simp only [ho]
 rw [if_pos hw]
 refine ⟨fun _ _=>trivial, ?_⟩
 rw [Oper.semAt_eq _ _ _ hne,hrun]
 cases m<;>simp only [gJ] at hv<;>try (cases hv)
 ·exact h _ rfl
 ·exact h _ rfl
theorem GOk.toP {B:Nat→Prop} (h:GOk G g w):GOk G (gP g B) w:=fun n cs hn=>(h n cs hn).toP
theorem td {o:Oper} (h:o.guard.isNone=true):Region.wanted o (yielded ops a.tmps)=true:=by
 unfold Region.wanted
 cases hg:o.guard with
 | none=>rfl
 | some x=>rw [hg] at h;cases h
theorem zY {n:Nat} {w' :World} {g0:Gh} {B:Nat→Prop} (h:Same (gP g0 B) T w w'):Fix n g0 T w T w' :=
 ⟨Nat.le_refl _,fun _ _ _=>rfl,fun i o b _ ho hl hb=>h.obj i o b ho hl hb⟩
theorem VInv.base (inv:VInv P G ops flo σ T T0 V R pend g w a.tmps.toList prot):RW g T w:=inv.rw.lessFr rfl rfl rfl fun _ h=> .inl h
theorem xO (st:VStat P ops flo) (inv:VInv P G ops flo σ T T0 V R pend g w a.tmps.toList prot) (hG:GOk G g w) {QQ:Exit→Act→World→Prop} {K:Act→World→Prop} {j:Nat} (hj:j∈Region.ready .any ops R) (hV:On V j)
  (next:∀g' w' (a' :Act),VInv P G ops flo σ T T0 V (R.setIfInBounds j true) pend g' w' a'.tmps.toList prot→Evo g w g' w' →(∀n,Fix n g T w T w')→a'.defers=a.defers→K a' w'):wpOpIn (cP r) 0 P ops QQ j K a w:=by
 obtain ⟨hun,o,ho,hdep⟩:=mem_ready.1 hj
 have hnR:=fq hun
 have hjs:j<R.size:=by rw [inv.rs];exact (Array.getElem?_eq_some_iff.1 ho).1
 have hdepV:∀e∈o.after,Region.binds .any e=true→On V e.on:=fun e he hb=>inv.cv j o ho hV e he hb
 have hl:∀s,inList (o.looksAt ops) s=true→∀(k:Nat) ok,ops[k]?=some ok→ok.dst=some s→On V k∧On R k:=fun s hs k ok hk hd=>
  ⟨(mT st.once ho hdepV hs hk hd).2,(mT st.once ho hdep hs hk hd).2⟩
 have hσ:=inv.rel.only hl
 obtain ⟨hnd,how⟩:=inv.own j o ho hV hnR
 have hjF:j∉bW flo:=fun hm=>hnR (inv.vf j hm hV)
 have key:∀(g' :Gh) (w' :World) (v:Value),Evo g w g' w' →g'.fr=g.fr→RW (gP g' (PB prot)) T w' →(∀b,PB prot b→w'.heap[b]?=w.heap[b]?)→(∀b o,PB prot b→g'.st b o→g.st b o)→(∀d x,o.dst=some d→σ[d]?=some x→VR g' w' x v)→(∀n,Fix n g T w T w')→K (a.put o.dst v) w' :=by
  intro g' w' v e hfr hrw hB hst hx hfix
  refine next g' w' _ ?_ e hfix (cc _ _ _)
  refine ⟨inv.vs,by simpa using inv.rs,inv.cv,inv.cr.set hj, ?_,fun k hk hv=>b8 (inv.vf k hk hv),inv.vb,inv.rel.step e ho fun d x hd hs _=>hx d x hd hs, ?_, ?_, ?_,inv.pinj,hrw,inv.t0⟩
  ·intro k hk hnv
   by_cases hjk:j=k
   ·subst hjk;exact absurd hV hnv
   ·exact inv.rv k (bk hjk hk) hnv
  ·intro k ok hk hv hnr
   exact inv.own k ok hk hv fun h=>hnr (b8 h)
  ·intro i jo hi hri hnvi
   have hne:j≠i:=fun h=>hnvi (h▸hV)
   refine (inv.flt i jo hi (bk hne hri) hnvi).step e (fun b hb=>hB b ⟨i,hb⟩) rfl (fun o' d' h1 h2 h3=> ?_) (fun jj hjj hr=> ?_)
   ·exact ((dL st.once h1 h2).2 j o ho hne).1 h3
   ·subst hjj
    refine bk (fun h=> ?_) hr
    subst h
    exact hjF (cd.2 ⟨i,some j,hi, .inr rfl⟩)
  ·intro k b hk
   obtain ⟨h1,h2,h3,h4,h5,h6⟩:=inv.pr k b hk
   exact ⟨h1,b8 h2,h3,by rw [hfr];exact h4,fun o hs=>h5 o (hst b o ⟨k,hk⟩ hs),Nat.lt_of_lt_of_le h6 e.size⟩
 rcases how with ⟨hw,hu⟩ | ⟨hw,y,hy,hsem⟩
 ·refine tc ho (ip hw hσ) ?_
  exact key g w undef (Evo.refl _ _) rfl inv.rw (fun _ _=>rfl) (fun _ _ _ h=>h) (fun d x hd hs=>by rw [hu d x hd hs];exact .val _) (fun n=>Fix.refl _ _ _ _)
 ·have hρ:∀x,VR (gP g (PB prot)) w (be G (only ops o σ) x) (a.eval x):=dZ hG.toP (VRs.gh (g:=g) (g' :=gP g (PB prot)) rfl rfl rfl hσ)
  have hs:∃Tp:VT,T.objs.take Tp.objs.length=Tp.objs∧lA P G Tp o (only ops o σ) y:=by
   rcases hsem with h | ⟨_,_,h⟩
   ·exact ⟨⟨[], []⟩,IN T,h⟩
   ·exact ⟨T0,inv.t0,IP h⟩
  obtain ⟨Tp,hTp,hsem⟩:=hs
  obtain ⟨m,v,g1,w1,h1,h2,h3,h4,h5,h6⟩:=hsem (gP g (PB prot)) w a.eval T hTp inv.rw hρ
  obtain ⟨g',rfl,hfr,e,hB,hst⟩:=h4.base
  refine pK hnd ho (ip hw hσ) h1 h2 fun v' hv' => ?_
  rw [h2] at hv';injection hv' with hv';subst hv'
  exact key g' w1 v e hfr h5 hB hst (fun d x hd hs=>by rw [hy d x hd hs];exact h3.ofP) (fun n=>zY h6)
theorem nV {o oj:Oper} (hb:oR P o oj=true) (hl:oQ P o=true):∃(d:Tmp) (t:TypeId) (inf:TypeInfo) (us:List Value) (x:Operand),o.dst=some d∧o.op= .alloc t∧oj.op= .store t (.tmp d) x∧oj.guard.isNone=true∧oj.dst=none∧x≠ .tmp d∧P.info? t=some inf∧us.length=inf.size∧
  ∀(ρ:Operand→Value) w,(execOp ρ o).run P w= .ok (.value (.pointer (some ⟨w.heap.size,0,none⟩))) (w.alloc (.cells us.toArray t)):=by
 unfold oR at hb
 split at hb
 ·rename_i d t t' d' x hd ho hoj
  simp only [Bool.and_eq_true] at hb
  obtain ⟨⟨⟨⟨⟨h1,h2⟩,h3⟩,h4⟩,h5⟩,h6⟩:=hb
  have h1:=Nat.eq_of_beq_eq_true h1
  have h2:=Nat.eq_of_beq_eq_true h2
  subst h1 h2
  split at h6
  ·rename_i inf hi
   split at h6
   ·rename_i z hz
    refine ⟨d,t,inf,z.cells.toList,x,hd,ho,hoj,h3,(by cases hq:oj.dst with | none=>rfl | some _=>rw [hq] at h4;cases h4), ?_,hi,by simpa using Nat.eq_of_beq_eq_true h6,fun ρ w=> ?_⟩
    ·rintro rfl
     simp at h5
    ·obtain ⟨dst,op,ty,pos,af,gd⟩:=o
     simp only at ho;subst ho
     simp [execOp,Instr.alloc,zeroValue,typeInfo,hi,hz,newVar,newRow]
   ·cases h6
  ·cases h6
 ·cases hb
theorem Ch {o:Oper} (h:oQ P o=true):(gL P ⟨[], []⟩ o.op).isSome=true∧o.guard.isNone=true∧(∃d,o.dst=some d)∧ce o.op=true:=by
 simp only [oQ,Bool.and_eq_true] at h
 exact ⟨h.1.1.1,h.1.1.2,Option.isSome_iff_exists.1 h.1.2,h.2⟩
theorem Ei (st:VStat P ops flo) (inv:VInv P G ops flo σ T T0 V R pend g w a.tmps.toList prot) {QQ:Exit→Act→World→Prop} {K:Act→World→Prop} {i:Nat} {jo:Option Nat} (hf:(i,jo)∈flo) (hi:i∈Region.ready .any ops R) (hV:¬On V i)
    (next:∀g' w' (a' :Act) prot',VInv P G ops flo σ T T0 V (R.setIfInBounds i true) pend g' w' a'.tmps.toList prot' →Evo g w g' w' →(∀n,Fix n g T w T w')→a'.defers=a.defers→K a' w'):wpOpIn (cP r) 0 P ops QQ i K a w:=by
  obtain ⟨hun,o,ho,hdep⟩:=mem_ready.1 hi
  have hnR:=fq hun
  have hsz:i<R.size:=by rw [inv.rs];exact (Array.getElem?_eq_some_iff.1 ho).1
  obtain ⟨o',ho',hlate,hbox⟩:=st.at hf
  rw [ho] at ho';injection ho' with ho';subst ho'
  obtain ⟨hmk,hgd,⟨d,hd⟩,hnd⟩:=Ch hlate
  have hnd' :=pJ st.dup
  --what it lays
  have lay:∃blk v0,(execOp a.eval o).run P w= .ok (.value v0) (w.alloc blk)∧∀tm' :List Value,(∀u,tm'[d]?=some u→u=v0)→∀(g' :Gh) (R' :Array Bool) (prot' :Nat→Option Nat),prot' i=some w.heap.size→(∀j,jo=some j→¬On R' j)→FlSt P G ops σ R' g' (w.alloc blk) tm' prot' i jo:=by
    cases jo with
    | none=>
      obtain ⟨blk,f,vo,mk,h1,h2⟩:=FY hmk
      refine ⟨blk,f w.heap.size,h1.run a.eval w fun v=>rfl,fun tm' htm g' R' prot' hp _=>⟨o,d,w.heap.size,ho,hd,hp,blk,f,vo,mk,h1,h2,heap_alloc_new w blk,htm⟩⟩
    | some j=>
      obtain ⟨oj,hoj,hb,_,_⟩:=hbox j rfl
      obtain ⟨d',t,inf,us,x,h1,h2,h3,h4,h5,h6,h7,h8,h9⟩:=nV hb hlate
      rw [hd] at h1;injection h1 with h1;subst h1
      exact ⟨_,_,h9 a.eval w,fun tm' htm g' R' prot' hp hj=>⟨o,d,w.heap.size,ho,hd,hp,oj,t,us,inf,hoj,heap_alloc_new w _,htm,h2,h7,h8,fun h=>absurd h (hj j rfl)⟩⟩
  obtain ⟨blk,v0,hrun,hlay⟩:=lay
  refine pK hnd ho (td hgd) hrun rfl fun v' hv' => ?_
  injection hv' with hv';subst hv'
  have hgr:Gr w (w.alloc blk):=(Gr.refl w).alloc _
  have e:=Evo.of_gr inv.base hgr
  have hsame:=Same.of_gr inv.rw hgr
  have hlt:w.heap.size<(w.alloc blk).heap.size:=(Array.getElem?_eq_some_iff.1 (heap_alloc_new w blk)).1
  have hnone:∀b,prot i≠some b:=fun b hb=>hnR (inv.pr i b hb).2.1
  refine next g (w.alloc blk) _ (fun k=>if k=i then some w.heap.size else prot k) ?_ e (fun n=>zY hsame) (cc _ _ _)
  have hpne:∀k,k≠i→(if k=i then some w.heap.size else prot k)=prot k:=fun k hk=>if_neg hk
  refine ⟨inv.vs,by simpa using inv.rs,inv.cv,inv.cr.set hi, ?_,fun k hk hv=>b8 (inv.vf k hk hv),inv.vb,inv.rel.step e ho fun _ _ _ _ h=>absurd h hV, ?_, ?_, ?_, ?_, ?_,inv.t0⟩
  · intro k hk hnv
    by_cases hik:i=k
    · subst hik;exact cd.2 ⟨i,jo,hf, .inl rfl⟩
    · exact inv.rv k (bk hik hk) hnv
  · intro k ok hk hv hnr
    exact inv.own k ok hk hv fun h=>hnr (b8 h)
  · intro i' jo' hf' hri hnv
    by_cases hii:i' =i
    · subst hii
      obtain ⟨_,rfl⟩:=fF hnd' hf hf' (k:=i') (.inl rfl) (.inl rfl)
      refine hlay _ (fun u hu=> ?_) g _ _ (if_pos rfl) fun j hj hon=> ?_
      · rw [mD] at hu
        by_cases hc:o.dst=some d∧d<a.tmps.toList.length
        · rw [if_pos hc] at hu;injection hu with hu;exact hu.symm
        · rw [if_neg hc] at hu
          exact absurd ⟨hd,(List.getElem?_eq_some_iff.1 hu).1⟩ hc
      · obtain ⟨oj,hoj,_,⟨e1,he1,hb1,hon1⟩,_⟩:=hbox j hj
        have hne:i' ≠j:=by
          rintro rfl
          rw [ho] at hoj;injection hoj with hoj;subst hoj
          have:=(ej st.flow ho).1 e1 he1 hb1
          omega
        have:=inv.cr j oj hoj (bk hne hon) e1 he1 hb1
        rw [hon1] at this
        exact hnR this
    · refine (inv.flt i' jo' hf' (bk (fun h=>hii h.symm) hri) hnv).step e (fun b hb=>hgr.heap (inv.pr i' b hb).2.2.2.2.2) (hpne i' hii) (fun o' d' h1 h2 h3=> ?_) fun jj hjj hr=> ?_
      · exact ((dL st.once h1 h2).2 i o ho (fun h=>hii h.symm)).1 h3
      · subst hjj
        refine bk (fun h=> ?_) hr
        subst h
        exact hii (fF hnd' hf' hf (k:=i) (.inr rfl) (.inl rfl)).1
  · intro k b hk
    by_cases hki:k=i
    · subst hki
      rw [if_pos rfl] at hk;injection hk with hk;subst hk
      have hfresh:=inv.rw.fresh (Nat.le_refl w.heap.size)
      exact ⟨⟨jo,hf⟩,jT hsz,hV,fun h=>hfresh.fr (.inl h),hfresh.st,hlt⟩
    · rw [if_neg hki] at hk
      obtain ⟨h1,h2,h3,h4,h5,h6⟩:=inv.pr k b hk
      exact ⟨h1,b8 h2,h3,h4,h5,Nat.lt_trans h6 hlt⟩
  · intro k k' b hk hk'
    by_cases hki:k=i<;>by_cases hki' :k' =i
    · omega
    · subst hki
      rw [if_pos rfl] at hk;rw [if_neg hki'] at hk'
      injection hk with hk;subst hk
      have:=(inv.pr k' _ hk').2.2.2.2.2
      omega
    · subst hki'
      rw [if_pos rfl] at hk';rw [if_neg hki] at hk
      injection hk' with hk';subst hk'
      have:=(inv.pr k _ hk).2.2.2.2.2
      omega
    · rw [if_neg hki] at hk;rw [if_neg hki'] at hk'
      exact inv.pinj k k' b hk hk'
  · have hfresh:=inv.rw.fresh (Nat.le_refl w.heap.size)
    refine RW.frs (inv.rw.gr hgr) rfl rfl rfl fun b hb=> ?_
    rcases hb with hb | ⟨k,hk⟩
    · exact ⟨Nat.lt_of_lt_of_le (inv.rw.fr b (.inl hb)) hgr.size, .inl (.inl hb)⟩
    · replace hk:(if k=i then some w.heap.size else prot k)=some b:=hk
      by_cases hki:k=i
      · rw [if_pos hki] at hk;injection hk with hk;subst hk
        exact ⟨hlt, .inr ⟨hfresh.obj,hfresh.tl⟩⟩
      · rw [if_neg hki] at hk
        exact ⟨Nat.lt_trans (inv.pr k b hk).2.2.2.2.2 hlt, .inl (.inr ⟨k,hk⟩)⟩
end
end
section
open Go.RowKit

section
variable {P:Program} {G:aU} {F:iW} {ops:Array Oper} {r:Option Nat} {flo:List (Nat × Option Nat)} {σ:List TV} {T T0:VT} {V R:Array Bool} {pend:List Nat} {g:Gh} {w:World} {a:Act} {prot:Nat→Option Nat}
theorem pL {flo0:List (Nat × Option Nat)}:∀{flo:List (Nat × Option Nat)},cX P G ops flo0 V σ flo=true→∀{i j},(i,some j)∈flo→¬On V i→sD ops flo0 (V.setIfInBounds i true) j=true→
    ∃o oj new d,ops[i]?=some o∧ops[j]?=some oj∧mA P o.op oj.op (be G (only ops oj σ))=some new∧o.dst=some d∧d<σ.length
  | [],_,_,_,h,_,_=>by cases h
  | (i',none)::l,hb,i,j,h,hn,hd=>by
    simp only [cX] at hb
    rcases List.mem_cons.1 h with h | h
    · cases h
    · exact pL hb h hn hd
  | (i',some j')::l,hb,i,j,h,hn,hd=>by
    simp only [cX,Bool.and_eq_true] at hb
    rcases List.mem_cons.1 h with h | h
    · injection h with h1 h2;injection h2 with h2;subst h1 h2
      have h3:=hb.1
      have hn' :V.getD i false=false:=by unfold On at hn;cases hq:V.getD i false<;>first | rfl | exact absurd hq hn
      rw [hn',hd] at h3
      simp only [Bool.not_true,Bool.or_self,Bool.false_or] at h3
      split at h3
      · rename_i o oj ho hoj
        simp only [Bool.and_eq_true] at h3
        obtain ⟨new,hnew⟩:=Option.isSome_iff_exists.1 h3.1
        have h4:=h3.2
        split at h4
        · rename_i d hdd
          exact ⟨o,oj,new,d,ho,hoj,hnew,hdd,Nat.le_of_ble_eq_true h4⟩
        · cases h4
      · cases h3
    · exact pL hb.2 h hn hd
theorem zZ {o oj:Oper} {t t' :TypeId} {ad x:Operand} {inf:TypeInfo} {ev:Operand→TV} {new:List TV} (h:mA P o.op oj.op ev=some new) (ho:o.op= .alloc t) (hoj:oj.op= .store t' ad x) (hi:P.info? t=some inf):bu (ev x)=some new∧inf.size=new.length∧new.all fj=true:=by
 unfold mA at h
 rw [ho,hoj] at h
 simp only [hi] at h
 split at h
 ·rename_i i new' h1 h2
  injection h1 with h1;subst h1
  cases hb:(Nat.beq inf.size new'.length&&new'.all fj) with
  | false=>rw [hb] at h;cases h
  | true=>
   rw [hb] at h
   simp only [Bool.and_eq_true] at hb
   injection h with h;subst h
   exact ⟨h2,Nat.eq_of_beq_eq_true hb.1,hb.2⟩
 ·cases h
theorem qP (st:VStat P ops flo) {k:Nat} {o:Oper} (h:boxStore flo k=true) (ho:ops[k]?=some o):o.dst=none:=by
 obtain ⟨i,hi⟩:=zX h
 obtain ⟨o2,ho2,hlate,hbox⟩:=st.at hi
 obtain ⟨oj,hoj,hib,_⟩:=hbox k rfl
 obtain ⟨_,_,_,_,_,_,_,_,_,h5,_⟩:=nV hib hlate
 rw [ho] at hoj;injection hoj with hoj;subst hoj
 exact h5
theorem Ej (st:VStat P ops flo) (inv:VInv P G ops flo σ T T0 V R pend g w a.tmps.toList prot) (hG:GOk G g w) (hbx:cX P G ops flo V σ flo=true) {QQ:Exit→Act→World→Prop} {K:Act→World→Prop} {i j:Nat} (hf:(i,some j)∈flo) (hj:j∈Region.ready .any ops R) (hV:¬On V j)
  (next:∀g' w' (a' :Act),VInv P G ops flo σ T T0 V (R.setIfInBounds j true) pend g' w' a'.tmps.toList prot→Evo g w g' w' →(∀n,Fix n g T w T w')→a'.defers=a.defers→K a' w'):wpOpIn (cP r) 0 P ops QQ j K a w:=by
 obtain ⟨hun,oj,hoj,hdep⟩:=mem_ready.1 hj
 have hnR:=fq hun
 have hsz:j<R.size:=by rw [inv.rs];exact (Array.getElem?_eq_some_iff.1 hoj).1
 have hnd' :=pJ st.dup
 obtain ⟨o,ho,hlate,hbox⟩:=st.at hf
 obtain ⟨oj',hoj',hib,⟨e1,he1,hb1,hon1⟩,hdeps⟩:=hbox j rfl
 rw [hoj] at hoj';injection hoj' with hoj';subst hoj'
 obtain ⟨d,t,inf,us0,x,h1,h2,h3,h4,h5,h6,h7,_,_⟩:=nV hib hlate
 have hRi:On R i:=hon1▸hdep e1 he1 hb1
 have hVi:¬On V i:=fun h=>hV ((inv.vb i j hf).1 h)
 have hdepV:∀e∈oj.after,Region.binds .any e=true→e.on=i∨On V e.on∨boxStore flo e.on=true:=fun e he hb=>by
  rcases hdeps e he hb with h | h | h
  ·exact .inl h
  ·refine .inr (.inl ?_)
   cases hq:V.getD e.on false with
   | true=>exact hq
   | false=>exact absurd (inv.rv e.on (hdep e he hb) (by unfold On;rw [hq];simp)) h
  ·exact .inr (.inr h)
 have hdi:sD ops flo (V.setIfInBounds i true) j=true:=by
  unfold sD
  rw [hoj]
  refine List.all_eq_true.2 fun e he=> ?_
  cases hb:Region.binds .any e with
  | false=>simp
  | true=>
   simp only [Bool.not_true,Bool.false_or]
   rw [Bool.or_eq_true]
   rcases hdepV e (Array.mem_toList_iff.1 he) hb with h | h | h
   ·left;rw [h];exact jT (by rw [inv.vs];exact (Array.getElem?_eq_some_iff.1 ho).1)
   ·left;exact b8 h
   ·right;exact h
 obtain ⟨o',oj',new,d',k1,k2,hnew,k3,hdlt⟩:=pL hbx hf hVi hdi
 rw [ho] at k1;injection k1 with k1;subst k1
 rw [hoj] at k2;injection k2 with k2;subst k2
 rw [h1] at k3;injection k3 with k3;subst k3
 obtain ⟨hcells,hlen,hone⟩:=zZ hnew h2 h3 h7
 obtain ⟨o',d',b,q1,q2,hp,oj',t',us,inf',q3,hheap,hptr,q4,q5,hus,_⟩:=inv.flt i (some j) hf hRi hVi
 rw [ho] at q1;injection q1 with q1;subst q1
 rw [h1] at q2;injection q2 with q2;subst q2
 rw [hoj] at q3;injection q3 with q3;subst q3
 rw [h2] at q4;injection q4 with q4;subst q4
 rw [h7] at q5;injection q5 with q5;subst q5
 --the value
 have hlook:∀e,x= .tmp e→inList (oj.looksAt ops) e=true:=fun e he=>by
  rw [bI]
  unfold Oper.looksAt
  rw [h3]
  simp [Op.operands,he]
 have hx:VR g w (be G (only ops oj σ) x) (a.eval x):=by
  cases x with
  | tmp e=>
   have hl:=hlook e rfl
   show VR g w ((only ops oj σ).getD e .dead) (a.eval (.tmp e))
   cases hs:σ[e]? with
   | none=>
    have:(only ops oj σ)[e]?=none:=by rw [mR,hs];rfl
    rw [List.getD_eq_getElem?_getD,this]
    exact .dead _
   | some z=>
    have hz:(only ops oj σ)[e]?=some z:=by rw [mR,hs,hl];rfl
    rw [List.getD_eq_getElem?_getD,hz]
    have hel:e<a.tmps.toList.length:=by rw [inv.rel.1];exact (List.getElem?_eq_some_iff.1 hs).1
    have hu:a.tmps.toList[e]?=some (a.eval (.tmp e)):=by
     rw [List.getElem?_eq_getElem hel]
     have:e<a.tmps.size:=by simpa using hel
     simp [Act.eval,this]
    refine inv.rel.2 e z _ hs hu fun k ok hk hd=> ?_
    obtain ⟨hkj,hRk⟩:=mT st.once hoj hdep hl hk hd
    refine ⟨?_,hRk⟩
    obtain ⟨h8,h9⟩:=dL st.once hk hd
    obtain ⟨e2,he2,hb2,hon2⟩:=(h9 j oj hoj (fun h=>hkj h.symm)).2 hl
    rcases hdepV e2 he2 hb2 with h | h | h
    rotate_left 2
    ·exfalso
     rw [hon2] at h
     rw [qP st h hk] at hd;cases hd
    ·exfalso
     rw [hon2] at h;subst h
     rw [ho] at hk;injection hk with hk;subst hk
     rw [h1] at hd;injection hd with hd;subst hd
     exact h6 rfl
    ·rw [hon2] at h;exact h
  | const v=>exact .val _
  | global n=>
   have:=dZ (a:=a) (σ:= []) (G:=G) (g:=g) (w:=w)
   show VR g w (be G [] (.global n)) (a.eval (.global n))
   simp only [be]
   split
   ·rename_i cs hn;exact hG n cs hn
   ·exact .val _
  | func f=>exact .fn (us:= []) (vs:= []) rfl (fun j x u h=>by simp at h) rfl (fun j x u h=>by simp at h)
 have ha:a.eval (.tmp d)= .pointer (some ⟨b,0,none⟩):=by
  have hel:d<a.tmps.toList.length:=by rw [inv.rel.1];exact hdlt
  have hu:a.tmps.toList[d]?=some (a.eval (.tmp d)):=by
   rw [List.getElem?_eq_getElem hel]
   have:d<a.tmps.size:=by simpa using hel
   simp [Act.eval,this]
  exact hptr _ hu
 generalize hux:a.eval x=u at hx
 have k:=j7 hcells hx
 have hoc:=jO hone k
 have hl:u.cells.toList.length=new.length:=k.1
 have hrun0:=run_storeCells_at (P:=P) b 0 t u.cells.toList 0 us.toArray w hheap (by simp at hl ⊢;omega) hoc
 simp only [Nat.add_zero,hl] at hrun0
 have hnd:ce oj.op=true:=by rw [h3];rfl
 have hcsz:bD (w.setRow b (us.take 0++u.cells.toList++us.drop (0+new.length)).toArray) b=bD w b:=by
  rw [bK (setRow_heap w b us.toArray _ t (0,0) hheap),bK hheap]
  simp at hl ⊢;omega
 have hrow:(us.take 0++u.cells.toList++us.drop (0+new.length))=u.cells.toList:=by
  rw [List.take_zero,List.nil_append,Nat.zero_add,List.drop_eq_nil_of_le (by omega),List.append_nil]
 have hrun:(execOp a.eval oj).run P w= .ok .skip (w.setRow b (us.take 0++u.cells.toList++us.drop (0+new.length)).toArray):=by
  have hs:u.cells.size=inf.size:=by rw [hlen,←hl];simp
  have:(Instr.storeAt t (a.eval (.tmp d)) u).run P w= .ok () (w.setRow b (us.take 0++u.cells.toList++us.drop (0+new.length)).toArray):=by
   rw [ha]
   simp only [Instr.storeAt,Instr.sureAddr,storeVar,Sem.run_bind,Sem.run_pure,Result.andThen_ok,bA h7,hs]
   simpa using hrun0
  obtain ⟨dst,op,ty,pos,af,gd⟩:=oj
  simp only at h3;subst h3
  simp [execOp,hux,this]
 refine pK (v:=undef) hnd hoj (td h4) hrun rfl fun v' hv' => ?_
 injection hv' with hv';subst hv'
 rw [hrow] at hcsz ⊢
 obtain ⟨p1,p2,p3,p4,p5,p6⟩:=inv.pr i b hp
 have hoth:∀c,c≠b→(w.setRow b u.cells.toList.toArray).heap[c]?=w.heap[c]?:=fun c hc=>setRow_other w b c _ hc
 obtain ⟨hrw',hev⟩:=inv.rw.off (b:=b) (w' :=w.setRow b u.cells.toList.toArray) (.inr ⟨i,hp⟩) p5 ⟨rfl,rfl,rfl⟩ (by simp) hoth hcsz
 have e:=hev g rfl p4
 have hfix:∀n,Fix n g T w T (w.setRow b u.cells.toList.toArray):=fun n=>⟨Nat.le_refl _,fun _ _ _=>rfl,fun id o' b' _ ho' hl' hb' =>hoth b' fun h=>by
  subst h
  obtain ⟨b2,y1,_,y3,_⟩:=inv.rw.obj id o' ho' hl'
  have y1' :g.obj id=some b2:=y1
  rw [hb'] at y1';injection y1' with y1';subst y1'
  exact y3 (.inr ⟨i,hp⟩)⟩
 have hdst:oj.dst=none:=h5
 refine next g _ (a.put oj.dst undef) ?_ e hfix (cc _ _ _)
 refine ⟨inv.vs,by simpa using inv.rs,inv.cv,inv.cr.set hj, ?_,fun k hk hv=>b8 (inv.vf k hk hv),inv.vb,inv.rel.step e hoj fun d x hd _ _=>(by rw [hdst] at hd;cases hd), ?_, ?_, ?_,inv.pinj,hrw',inv.t0⟩
 ·intro k' hk hnv
  by_cases hjk:j=k'
  ·subst hjk;exact cd.2 ⟨i,some j,hf, .inr rfl⟩
  ·exact inv.rv k' (bk hjk hk) hnv
 ·intro k' ok hk hv hnr
  exact inv.own k' ok hk hv fun h=>hnr (b8 h)
 ·intro i' jo' hf' hri hnv
  by_cases hii:i' =i
  ·subst hii
   obtain ⟨_,rfl⟩:=fF hnd' hf hf' (k:=i') (.inl rfl) (.inl rfl)
   refine ⟨o,d,b,ho,h1,hp,oj,t,u.cells.toList,inf,hoj,setRow_heap w b us.toArray _ t (0,0) hheap,fun u' hu' => ?_,h2,h7,by omega,fun _=>⟨new,hnew,k.mono e,hoc⟩⟩
   rw [mD,if_neg (by rw [hdst];rintro ⟨h,_⟩;cases h)] at hu'
   exact hptr u' hu'
  ·have hri' :On R i' :=bk (fun h=>by
    subst h
    exact hii (fF hnd' hf' hf (k:=j) (.inl rfl) (.inr rfl)).1) hri
   refine (inv.flt i' jo' hf' hri' hnv).step e (fun b' hb' =>hoth b' fun h=>by subst h;exact hii (inv.pinj i' i b' hb' hp)) rfl (fun o' d' _ _ h3' =>by rw [hdst] at h3';cases h3') fun jj hjj hr=> ?_
   subst hjj
   refine bk (fun h=> ?_) hr
   subst h
   exact hii (fF hnd' hf' hf (k:=j) (.inr rfl) (.inr rfl)).1
 ·intro k' b' hk
  obtain ⟨y1,y2,y3,y4,y5,y6⟩:=inv.pr k' b' hk
  exact ⟨y1,b8 y2,y3,y4,y5,Nat.lt_of_lt_of_le y6 e.size⟩
end
end
section
open Go.RowKit

section
variable {P:Program} {G:aU} {F:iW} {ops:Array Oper} {r:Option Nat} {flo:List (Nat × Option Nat)} {σ:List TV} {T T0:VT} {V R:Array Bool} {pend:List Nat} {g:Gh} {w:World} {a:Act} {prot:Nat→Option Nat}
theorem Owed.put (st:VStat P ops flo) (hcv:Closed ops V) {i k:Nat} {o ok:Oper} (ho:ops[i]?=some o) (hVi:¬On V i) (hk:ops[k]?=some ok) (hVk:On V k) {y:TV} {pend' :List Nat} (hp:∀k∈pend,k∈pend') (h:Owed P G ops T0 pend k ok σ):Owed P G ops T0 pend' k ok (bx σ o.dst y):=by
 have hki:k≠i:=fun e=>hVi (e▸hVk)
 have hon:only ops ok (bx σ o.dst y)=only ops ok σ:=mS fun s hs=>by
  cases hl:inList (ok.looksAt ops) s with
  | false=>rfl
  | true=>
   obtain ⟨e,he,hb,hon⟩:=((dL st.once ho hs).2 k ok hk hki).2 hl
   exact absurd (hon▸hcv k ok hk hVk e he hb) hVi
 have hat:∀d x,ok.dst=some d→(bx σ o.dst y)[d]?=some x→σ[d]?=some x:=fun d x hd hx=>by
  rw [kR,if_neg] at hx
  ·exact hx
  ·rintro ⟨h1,_⟩
   exact ((dL st.once ho h1).2 k ok hk hki).1 hd
 obtain ⟨h0,h1⟩:=h
 refine ⟨h0, ?_⟩
 rw [hon]
 rcases h1 with ⟨h1,h2⟩ | ⟨h1,z,h2,h3⟩
 ·exact .inl ⟨h1,fun d x hd hx=>h2 d x hd (hat d x hd hx)⟩
 ·refine .inr ⟨h1,z,fun d x hd hx=>h2 d x hd (hat d x hd hx), ?_⟩
  rcases h3 with h3 | ⟨h3,h4⟩
  ·exact .inl h3
  ·exact .inr ⟨hp k h3,h4⟩
theorem FlSt.sig {R:Array Bool} {tm:List Value} {i:Nat} {jo:Option Nat} {σ' :List TV} (h:FlSt P G ops σ R g w tm prot i jo) (hs:∀(j:Nat) oj,jo=some j→ops[j]?=some oj→On R j→only ops oj σ' =only ops oj σ):FlSt P G ops σ' R g w tm prot i jo:=by
 obtain ⟨o,d,b,h1,h2,h3,h4⟩:=h
 refine ⟨o,d,b,h1,h2,h3, ?_⟩
 cases jo with
 | none=>exact h4
 | some j=>
  obtain ⟨oj,t,us,inf,k1,k2,k3,k4,k5,k6,k7⟩:=h4
  refine ⟨oj,t,us,inf,k1,k2,k3,k4,k5,k6,fun hj=> ?_⟩
  rw [hs j oj rfl k1 hj];exact k7 hj
theorem IR (st:VStat P ops flo) (inv:VInv P G ops flo σ T T0 V R pend g w a.tmps.toList prot) {i:Nat} {o:Oper} (ho:ops[i]?=some o) (hi:i∈Region.ready .any ops V) (hF:i∉bW flo) (hnd:ce o.op=true) {y:TV} {pend' :List Nat} (hp:∀k∈pend,k∈pend')
    (how:(bX ops (only ops o σ) o=some false∧y= .val undef)∨(bX ops (only ops o σ) o=some true∧(lA P G ⟨[], []⟩ o (only ops o σ) y∨(i∈pend' ∧bm P o.op (be G (only ops o σ))=none∧bh P T0 o.op (be G (only ops o σ))=some y)))):
    VInv P G ops flo (bx σ o.dst y) T T0 (V.setIfInBounds i true) R pend' g w a.tmps.toList prot:=by
  obtain ⟨hun,o',ho',hdep⟩:=mem_ready.1 hi
  rw [ho] at ho';injection ho' with ho';subst ho'
  have hVi:=fq hun
  have hRi:¬On R i:=fun h=>hF (inv.rv i h hVi)
  have hlt:=(Array.getElem?_eq_some_iff.1 ho).1
  refine ⟨by simpa using inv.vs,inv.rs,inv.cv.set hi,inv.cr,fun k hk hnv=>inv.rv k hk fun h=>hnv (b8 h),fun k hk hv=> ?_,fun i' j' h=> ?_, ?_,fun k ok hk hv hnr=> ?_,fun i' jo hf hri hnv=> ?_,fun k b hk=> ?_,inv.pinj,inv.rw,inv.t0⟩
  · exact inv.vf k hk (bk (fun h=>hF (by rw [h];exact hk)) hv)
  · have h1:i≠i' :=fun e=>hF (cd.2 ⟨i',some j',h, .inl e⟩)
    have h2:i≠j' :=fun e=>hF (cd.2 ⟨i',some j',h, .inr (by rw [e])⟩)
    exact ⟨fun h3=>b8 ((inv.vb i' j' h).1 (bk h1 h3)),fun h3=>b8 ((inv.vb i' j' h).2 (bk h2 h3))⟩
  · refine ⟨by rw [tS];exact inv.rel.1,fun s x u hs hu hw=> ?_⟩
    have hne:o.dst≠some s:=fun hd=>hRi (hw i o ho hd).2
    rw [kR,if_neg fun h=>hne h.1] at hs
    refine inv.rel.2 s x u hs hu fun k ok hk hd=> ?_
    obtain ⟨h1,h2⟩:=hw k ok hk hd
    refine ⟨bk (fun h=> ?_) h1,h2⟩
    subst h
    rw [ho] at hk;injection hk with hk;subst hk
    exact hne hd
  · by_cases hki:i=k
    · subst hki
      rw [ho] at hk;injection hk with hk;subst hk
      have hself:∀s,o.dst=some s→inList (o.looksAt ops) s=false:=fun s hs=>(dL st.once ho hs).1
      have hat:∀d x,o.dst=some d→(bx σ o.dst y)[d]?=some x→x=y:=fun d x hd hx=>by
        rw [kR] at hx
        by_cases hc:o.dst=some d∧d<σ.length
        · rw [if_pos hc] at hx;injection hx with hx;exact hx.symm
        · rw [if_neg hc] at hx
          exact absurd ⟨hd,(List.getElem?_eq_some_iff.1 hx).1⟩ hc
      refine ⟨hnd, ?_⟩
      rw [mS hself]
      rcases how with ⟨h1,h2⟩ | ⟨h1,h2⟩
      · exact .inl ⟨h1,fun d x hd hx=>(hat d x hd hx).trans h2⟩
      · exact .inr ⟨h1,y,hat,h2⟩
    · have hv' :=bk hki hv
      exact (inv.own k ok hk hv' hnr).put st inv.cv ho hVi hk hv' hp
  · refine (inv.flt i' jo hf hri fun h=>hnv (b8 h)).sig fun j oj hj hoj hrj=>mS fun s hs=> ?_
    subst hj
    cases hl:inList (oj.looksAt ops) s with
    | false=>rfl
    | true=>
      have hji:j≠i:=fun e=>hRi (e▸hrj)
      obtain ⟨e,he,hb,hon⟩:=((dL st.once ho hs).2 j oj hoj hji).2 hl
      exact absurd (hon▸inv.cr j oj hoj hrj e he hb) hRi
  · obtain ⟨h1,h2,h3,h4⟩:=inv.pr k b hk
    refine ⟨h1,h2,fun h=> ?_,h4⟩
    by_cases hik:i=k
    · subst hik;exact hRi h2
    · exact h3 (bk hik h)
theorem CE {n:Nat} {o:VO}:Fix n g T w {T with objs:=T.objs++ [o]} w:=
 ⟨by simp,fun i _ hl=>by rw [List.getElem?_append_left hl],fun _ _ _ _ _ _ _=>rfl⟩
theorem u6 (st:VStat P ops flo) (inv:VInv P G ops flo σ T T0 V R pend g w a.tmps.toList prot) {i:Nat} {jo:Option Nat} {o:Oper} (ho:ops[i]?=some o) (hf:(i,jo)∈flo) (hi:i∈Region.ready .any ops V) (hRi:On R i) (hRj:∀j,jo=some j→On R j) {V' :Array Bool}
    (hV' :∀k,On V' k ↔ (k=i∨jo=some k)∨On V k) (hvs:V'.size=ops.size) (hcv:Closed ops V') {b:Nat} (hb:prot i=some b) {vo:VO} {y:TV} (hl:vo.live=true) (hor:OR g w b vo) (hy:∀d u,o.dst=some d→a.tmps.toList[d]?=some u→∀g' :Gh,g'.obj T.objs.length=some b→VR g' w y u):
    ∃g' prot',VInv P G ops flo (bx σ o.dst y) {T with objs:=T.objs++ [vo]} T0 V' R pend g' w a.tmps.toList prot' ∧Evo g w g' w:=by
  obtain ⟨hun,o',ho',hdep⟩:=mem_ready.1 hi
  rw [ho] at ho';injection ho' with ho';subst ho'
  have hVi:=fq hun
  have hnd' :=pJ st.dup
  have hiF:i∈bW flo:=cd.2 ⟨i,jo,hf, .inl rfl⟩
  obtain ⟨p1,p2,p3,p4,p5,p6⟩:=inv.pr i b hb
  have hout:g.obj T.objs.length=none:=inv.rw.out _ (Nat.le_refl _)
  have e:Evo g w (g.addObj T.objs.length b) w:=Evo.addObj hout
  have hpne:∀k,k≠i→(if k=i then none else prot k)=prot k:=fun k hk=>if_neg hk
  have hPB:∀c,PB (fun k=>if k=i then none else prot k) c→PB prot c∧c≠b:=by
    rintro c ⟨k,hk⟩
    replace hk:(if k=i then none else prot k)=some c:=hk
    by_cases hki:k=i
    · rw [if_pos hki] at hk;cases hk
    · rw [if_neg hki] at hk
      exact ⟨⟨k,hk⟩,fun h=>hki (inv.pinj k i b (h▸hk) hb)⟩
  have r1:RW (gP g (PB fun k=>if k=i then none else prot k)) T w:=inv.rw.lessFr rfl rfl rfl fun c hc=>by
    rcases hc with hc | hc
    · exact .inl hc
    · exact .inr (hPB c hc).1
  have hfresh:uG (gP g (PB fun k=>if k=i then none else prot k)) T b:=by
    refine ⟨fun hc=> ?_,p5,fun id o hid hlo hob=> ?_,fun k x hx hh=> ?_⟩
    · rcases hc with hc | hc
      · exact p4 hc
      · exact (hPB b hc).2 rfl
    · obtain ⟨c,h1,_,h3,_⟩:=inv.rw.obj id o hid hlo
      have h1' :g.obj id=some c:=h1
      have hob' :g.obj id=some b:=hob
      rw [h1'] at hob';injection hob' with hob';subst hob'
      exact h3 (.inr ⟨i,hb⟩)
    · rcases hh with ⟨o2,hin⟩ | ⟨h1,h2,h3⟩
      · rcases Nat.lt_or_ge k T.tails.length with hk | hk
        · obtain ⟨x',y1,_,_,y4⟩:=inv.rw.tl k T.tails[k] (List.getElem?_eq_getElem hk)
          have y1' :g.tail k=some x' :=y1
          have hx' :g.tail k=some x:=hx
          rw [hx'] at y1';injection y1' with y1';subst y1'
          exact (y4 b o2 hin).2.2.2 (.inr ⟨i,hb⟩)
        · have:=r1.tout k hk
          rw [hx] at this;cases this
      · have:=(inv.rw.own k x hx h1 h2).2.2.2.2
        rw [h3] at this
        exact this (.inr ⟨i,hb⟩)
  have r2:=r1.addObj hfresh hl (OR.gh (g:=g) (g' :=gP g (PB fun k=>if k=i then none else prot k)) rfl rfl rfl hor)
  have hV'j:∀k,On V' k→¬On V k→k=i∨jo=some k:=fun k h1 h2=>by
    rcases (hV' k).1 h1 with h | h
    · exact h
    · exact absurd h h2
  refine ⟨g.addObj T.objs.length b,fun k=>if k=i then none else prot k, ?_,e⟩
  refine ⟨hvs,inv.rs,hcv,inv.cr,fun k hk hnv=>inv.rv k hk fun h=>hnv ((hV' k).2 (.inr h)),fun k hk hv=> ?_,fun i' j' h=> ?_, ?_,fun k ok hk hv hnr=> ?_,fun i' jo' hf' hri hnv=> ?_,fun k c hk=> ?_,fun k k' c hk hk' => ?_,r2, ?_⟩
  · rcases (hV' k).1 hv with (h | h) | h
    · subst h;exact hRi
    · exact hRj k h
    · exact inv.vf k hk h
  · constructor
    · intro h1
      rcases (hV' i').1 h1 with h2 | h2
      · obtain ⟨rfl,rfl⟩:=fF hnd' hf h h2 (.inl rfl)
        exact (hV' j').2 (.inl (.inr rfl))
      · exact (hV' j').2 (.inr ((inv.vb i' j' h).1 h2))
    · intro h1
      rcases (hV' j').1 h1 with h2 | h2
      · obtain ⟨rfl,rfl⟩:=fF hnd' hf h h2 (.inr rfl)
        exact (hV' i).2 (.inl (.inl rfl))
      · exact (hV' i').2 (.inr ((inv.vb i' j' h).2 h2))
  · refine ⟨by rw [tS];exact inv.rel.1,fun s x u hs hu hw=> ?_⟩
    rw [kR] at hs
    by_cases hc:o.dst=some s∧s<σ.length
    · rw [if_pos hc] at hs;injection hs with hs;subst hs
      exact hy s u hc.1 hu _ (by simp [Gh.addObj])
    · rw [if_neg hc] at hs
      have hne:o.dst≠some s:=fun hd=>hc ⟨hd,(List.getElem?_eq_some_iff.1 hs).1⟩
      refine (inv.rel.2 s x u hs hu fun k ok hk hd=> ?_).mono e
      obtain ⟨h1,h2⟩:=hw k ok hk hd
      refine ⟨?_,h2⟩
      rcases (hV' k).1 h1 with (h | h) | h
      · subst h
        rw [ho] at hk;injection hk with hk;subst hk
        exact absurd hd hne
      · exfalso
        --a box's store writes no slot
        obtain ⟨o2,ho2,hlate,hbox⟩:=st.at hf
        obtain ⟨oj,hoj,hib,_⟩:=hbox k h
        obtain ⟨_,_,_,_,_,_,_,_,_,h5,_⟩:=nV hib hlate
        rw [hk] at hoj;injection hoj with hoj;subst hoj
        rw [h5] at hd;cases hd
      · exact h
  · rcases (hV' k).1 hv with (h | h) | h
    · subst h;exact absurd hRi hnr
    · exact absurd (hRj k h) hnr
    · exact (inv.own k ok hk h hnr).put st inv.cv ho hVi hk h fun _ h=>h
  · have hnv0:¬On V i' :=fun h=>hnv ((hV' i').2 (.inr h))
    have hii:i' ≠i:=fun h=>hnv ((hV' i').2 (.inl (.inl h)))
    have h0:=(inv.flt i' jo' hf' hri hnv0).sig (σ' :=bx σ o.dst y) fun j oj hj hoj hrj=>mS fun s hs=>by
      subst hj
      cases hlk:inList (oj.looksAt ops) s with
      | false=>rfl
      | true=>
        exfalso
        have hji:j≠i:=fun e=>hii (fF hnd' hf' hf (k:=i) (.inr (by rw [e])) (.inl rfl)).1
        obtain ⟨e1,he,hb1,hon⟩:=((dL st.once ho hs).2 j oj hoj hji).2 hlk
        obtain ⟨o2,ho2,_,hbox⟩:=st.at hf'
        obtain ⟨oj',hoj',_,_,hdeps⟩:=hbox j rfl
        rw [hoj] at hoj';injection hoj' with hoj';subst hoj'
        rcases hdeps e1 he hb1 with h | h | h
        · exact hii (h.symm.trans hon)
        · exact h (hon▸hiF)
        · rw [hon] at h
          rw [qP st h ho] at hs;cases hs
    have h1:=h0.step (g' :=g.addObj T.objs.length b) (w' :=w) (a:=a) (R' :=R) (prot' :=fun k=>if k=i then none else prot k) e (fun _ _=>rfl) (hpne i' hii) (d' :=none) (v:=undef) (fun _ _ _ _ h=>by cases h) (fun _ _ h=>h)
    simpa [Act.put] using h1
  · replace hk:(if k=i then none else prot k)=some c:=hk
    by_cases hki:k=i
    · rw [if_pos hki] at hk;cases hk
    · rw [if_neg hki] at hk
      obtain ⟨h1,h2,h3,h4,h5,h6⟩:=inv.pr k c hk
      refine ⟨h1,h2,fun h=> ?_,h4,h5,h6⟩
      rcases (hV' k).1 h with (h | h) | h
      · exact hki h
      · obtain ⟨jo',hjo'⟩:=h1
        exact hki (fF hnd' hjo' hf (k:=k) (.inl rfl) (.inr h)).1
      · exact h3 h
  · replace hk:(if k=i then none else prot k)=some c:=hk
    replace hk' :(if k' =i then none else prot k')=some c:=hk'
    by_cases hki:k=i
    · rw [if_pos hki] at hk;cases hk
    · by_cases hki' :k' =i
      · rw [if_pos hki'] at hk';cases hk'
      · rw [if_neg hki] at hk;rw [if_neg hki'] at hk'
        exact inv.pinj k k' c hk hk'
  · have hle:T0.objs.length≤T.objs.length:=by
      have:=congrArg List.length inv.t0
      rw [List.length_take] at this;omega
    show (T.objs++ [vo]).take T0.objs.length=T0.objs
    rw [List.take_append_of_le_length hle];exact inv.t0
end
end
section
open Go.RowKit

section
variable {P:Program} {G:aU} {F:iW} {ops:Array Oper} {r:Option Nat} {flo:List (Nat × Option Nat)} {σ:List TV} {T T0:VT} {V R:Array Bool} {pend:List Nat} {g:Gh} {w:World} {a:Act} {prot:Nat→Option Nat}
theorem VInv.turned (st:VStat P ops flo) (inv:VInv P G ops flo σ T T0 V R pend g w a.tmps.toList prot) {i:Nat} {o:Oper} (ho:ops[i]?=some o) (hiR:i∈Region.ready .any ops R) (hiV:i∈Region.ready .any ops V) (hF:i∉bW flo)
    {g' :Gh} {w' :World} {v:Value} {y:TV} {T' T0' :VT} {pend' :List Nat} (e:Evo g w g' w') (hfr:g'.fr=g.fr) (hB:∀b,PB prot b→w'.heap[b]?=w.heap[b]?) (hst:∀b o,PB prot b→g'.st b o→g.st b o) (hrw:RW (gP g' (PB prot)) T' w') (hy:∀d u,o.dst=some d→(a.put o.dst v).tmps.toList[d]?=some u→VR g' w' y u)
    (ht0:T'.objs.take T0'.objs.length=T0'.objs) (hpend:∀k ok y,k∈pend→ops[k]?=some ok→¬On R k→bX ops (only ops ok σ) ok=some true→bm P ok.op (be G (only ops ok σ))=none→bh P T0 ok.op (be G (only ops ok σ))=some y→k∈pend' ∧bh P T0' ok.op (be G (only ops ok σ))=some y):
    VInv P G ops flo (bx σ o.dst y) T' T0' (V.setIfInBounds i true) (R.setIfInBounds i true) pend' g' w' (a.put o.dst v).tmps.toList prot:=by
  obtain ⟨hun,o',ho',hdep⟩:=mem_ready.1 hiR
  rw [ho] at ho';injection ho' with ho';subst ho'
  have hnR:=fq hun
  have hVi:=fq (mem_ready.1 hiV).1
  have hlt:=(Array.getElem?_eq_some_iff.1 ho).1
  refine ⟨by simpa using inv.vs,by simpa using inv.rs,inv.cv.set hiV,inv.cr.set hiR,fun k hk hnv=> ?_,fun k hk hv=>b8 (inv.vf k hk (bk (fun h=>hF (by rw [h];exact hk)) hv)),fun i' j' h=> ?_, ?_,fun k ok hk hv hnr=> ?_,fun i' jo hf hri hnv=> ?_,fun k b hk=> ?_,inv.pinj,hrw,ht0⟩
  · by_cases hik:i=k
    · subst hik;exact absurd (jT (by rw [inv.vs];exact hlt)) hnv
    · exact inv.rv k (bk hik hk) fun h=>hnv (b8 h)
  · have h1:i≠i' :=fun e=>hF (cd.2 ⟨i',some j',h, .inl e⟩)
    have h2:i≠j' :=fun e=>hF (cd.2 ⟨i',some j',h, .inr (by rw [e])⟩)
    exact ⟨fun h3=>b8 ((inv.vb i' j' h).1 (bk h1 h3)),fun h3=>b8 ((inv.vb i' j' h).2 (bk h2 h3))⟩
  · refine ⟨by rw [tS,CD];exact inv.rel.1,fun s x u hs hu hw=> ?_⟩
    rw [kR] at hs
    by_cases hc:o.dst=some s∧s<σ.length
    · rw [if_pos hc] at hs;injection hs with hs;subst hs
      exact hy s u hc.1 hu
    · rw [if_neg hc] at hs
      have hne:o.dst≠some s:=fun hd=>hc ⟨hd,(List.getElem?_eq_some_iff.1 hs).1⟩
      rw [mD,if_neg fun h=>hne h.1] at hu
      refine (inv.rel.2 s x u hs hu fun k ok hk hd=> ?_).mono e
      obtain ⟨h1,h2⟩:=hw k ok hk hd
      have hik:i≠k:=fun h=>by
        subst h
        rw [ho] at hk;injection hk with hk;subst hk
        exact hne hd
      exact ⟨bk hik h1,bk hik h2⟩
  · have hki:i≠k:=fun h=>hnr (h▸jT (by rw [inv.rs];exact hlt))
    have hv' :=bk hki hv
    have hnr' :¬On R k:=fun h=>hnr (b8 h)
    have h1:Owed P G ops T0' pend' k ok σ:=by
      obtain ⟨h2,h3⟩:=inv.own k ok hk hv' hnr'
      refine ⟨h2, ?_⟩
      rcases h3 with h3 | ⟨h3,z,h4,h5⟩
      · exact .inl h3
      · refine .inr ⟨h3,z,h4, ?_⟩
        rcases h5 with h5 | ⟨h5,h6,h7⟩
        · exact .inl h5
        · obtain ⟨h8,h9⟩:=hpend k ok z h5 hk hnr' h3 h6 h7
          exact .inr ⟨h8,h6,h9⟩
    exact h1.put (y:=y) (pend' :=pend') st inv.cv ho hVi hk hv' fun _ h=>h
  · have hii:i≠i' :=fun h=>hF (cd.2 ⟨i',jo,hf, .inl h⟩)
    have hri' :=bk hii hri
    have hnv' :¬On V i' :=fun h=>hnv (b8 h)
    have h0:=(inv.flt i' jo hf hri' hnv').sig (σ' :=bx σ o.dst y) fun j oj hj hoj hrj=>mS fun s hs=>by
      subst hj
      cases hlk:inList (oj.looksAt ops) s with
      | false=>rfl
      | true=>
        exfalso
        have hji:j≠i:=fun e=>hF (cd.2 ⟨i',some j,hf, .inr (by rw [e])⟩)
        obtain ⟨e1,he,hb1,hon⟩:=((dL st.once ho hs).2 j oj hoj hji).2 hlk
        exact hnR (hon▸inv.cr j oj hoj hrj e1 he hb1)
    refine h0.step e (fun b hb=>hB b ⟨i',hb⟩) rfl (fun o' d' h1 h2 h3=>((dL st.once h1 h2).2 i o ho hii).1 h3) fun j hj hr=> ?_
    subst hj
    exact bk (fun h=>hF (cd.2 ⟨i',some j,hf, .inr (by rw [h])⟩)) hr
  · obtain ⟨h1,h2,h3,h4,h5,h6⟩:=inv.pr k b hk
    refine ⟨h1,b8 h2,fun h=> ?_,by rw [hfr];exact h4,fun o2 hs=>h5 o2 (hst b o2 ⟨k,hk⟩ hs),Nat.lt_of_lt_of_le h6 e.size⟩
    by_cases hik:i=k
    · subst hik;exact hnR h2
    · exact h3 (bk hik h)
theorem qQ (st:VStat P ops flo) (inv:VInv P G ops flo σ T T0 V R pend g w a.tmps.toList prot) (hG:GOk G g w) {QQ:Exit→Act→World→Prop} {K:Act→World→Prop} {i:Nat} {o:Oper} (ho:ops[i]?=some o)
  (hiR:i∈Region.ready .any ops R) (hiV:i∈Region.ready .any ops V) (hF:i∉bW flo) {ro:Nat} {b:Bool} (hw:bX ops (only ops o σ) o=some b) {X:List TV→VT→Prop}
  (h:b=true→VPi P G ro o (only ops o σ) T fun s T' =>X (bx σ o.dst (sF o s)) T') (hY:b=false→X (bx σ o.dst (.val undef)) T) {pend' :List Nat} (T0' :VT→VT) (ht0:∀σ' T' w' g',X σ' T' →Fix ro g T w T' w' →Evo g w g' w' →T'.objs.take (T0' T').objs.length=(T0' T').objs)
  (hpend:∀σ' T' k ok y,X σ' T' →k∈pend→ops[k]?=some ok→¬On R k→bX ops (only ops ok σ) ok=some true→bm P ok.op (be G (only ops ok σ))=none→bh P T0 ok.op (be G (only ops ok σ))=some y→k∈pend' ∧bh P (T0' T') ok.op (be G (only ops ok σ))=some y)
  (next:∀σ' T' g' w' (a' :Act),X σ' T' →VInv P G ops flo σ' T' (T0' T') (V.setIfInBounds i true) (R.setIfInBounds i true) pend' g' w' a'.tmps.toList prot→Evo g w g' w' →Fix ro g T w T' w' →a'.defers=a.defers→K a' w'):wpOpIn (cP r) 0 P ops QQ i K a w:=by
 obtain ⟨_,o',ho',hdepR⟩:=mem_ready.1 hiR
 rw [ho] at ho';injection ho' with ho';subst ho'
 obtain ⟨_,o',ho',hdepV⟩:=mem_ready.1 hiV
 rw [ho] at ho';injection ho' with ho';subst ho'
 have hl:∀s,inList (o.looksAt ops) s=true→∀(k:Nat) ok,ops[k]?=some ok→ok.dst=some s→On V k∧On R k:=fun s hs k ok hk hd=>
  ⟨(mT st.once ho hdepV hs hk hd).2,(mT st.once ho hdepR hs hk hd).2⟩
 have hσ:=inv.rel.only hl
 have hwant:=ip hw hσ
 cases b with
 | false=>
  refine tc ho hwant ?_
  refine next _ T g w _ (hY rfl) ?_ (Evo.refl _ _) (Fix.refl _ _ _ _) (cc _ _ _)
  exact inv.turned st ho hiR hiV hF (Evo.refl _ _) rfl (fun _ _=>rfl) (fun _ _ _ h=>h) inv.rw (fun d u hd hu=>by
   rw [mD] at hu
   by_cases hc:o.dst=some d∧d<a.tmps.toList.length
   ·rw [if_pos hc] at hu;injection hu with hu;subst hu;exact .val _
   ·rw [if_neg hc] at hu;exact absurd ⟨hd,(List.getElem?_eq_some_iff.1 hu).1⟩ hc) (ht0 _ _ w g (hY rfl) (Fix.refl _ _ _ _) (Evo.refl _ _)) (fun k ok y=>hpend _ T k ok y (hY rfl))
 | true=>
  unfold wpOpIn
  simp only [ho]
  rw [if_pos hwant]
  refine h rfl r (gP g (PB prot)) w a _ _ inv.rw hG.toP (VRs.gh (g:=g) (g' :=gP g (PB prot)) rfl rfl rfl hσ) fun s T' g1 w1 a' hput hX e1 r1 hs hd' hfix=> ?_
  obtain ⟨v,rfl⟩:=hput
  obtain ⟨g',rfl,hfr,e,hB,hst⟩:=e1.base
  have hfix' :Fix ro g T w T' w1:=⟨hfix.len,hfix.same,hfix.heap⟩
  refine next _ T' g' w1 _ hX ?_ e hfix' hd'
  refine inv.turned st ho hiR hiV hF e hfr hB hst r1 (fun d u hd hu=> ?_) (ht0 _ _ w1 g' hX hfix' e) (fun k ok y=>hpend _ T' k ok y hX)
  unfold sF
  rw [hd]
  simp only
  rw [List.getD_eq_getElem?_getD]
  have hlen:s.length=(a.put o.dst v).tmps.toList.length:=hs.1.symm
  have hdl:=(List.getElem?_eq_some_iff.1 hu).1
  rw [←hlen] at hdl
  rw [List.getElem?_eq_getElem hdl]
  exact (hs.2 d _ u (List.getElem?_eq_getElem hdl) hu).ofP
theorem qR:∀{l:List Nat} {V:Array Bool} {k:Nat},On (eF l V) k→k∈l∨On V k
 | [],_,_,h=> .inr h
 | i::l,V,k,h=>by
  rcases qR (l:=l) h with h | h
  ·exact .inl (List.mem_cons_of_mem _ h)
  ·by_cases hik:i=k
   ·exact .inl (by rw [hik];exact List.mem_cons_self)
   ·exact .inr (bk hik h)
theorem lB:∀{l:List Nat} {V:Array Bool} {k:Nat},(On V k∨(k∈l∧k<V.size))→On (eF l V) k
  | [],_,_,h=>by
    rcases h with h | h
    · exact h
    · cases h.1
  | i::l,V,k,h=>by
    refine lB (l:=l) ?_
    rcases h with h | ⟨h,hk⟩
    · exact .inl (b8 h)
    · rcases List.mem_cons.1 h with h | h
      · subst h;exact .inl (jT hk)
      · exact .inr ⟨h,by simpa using hk⟩
theorem tT (inv:VInv P G ops flo σ T T0 V R pend g w a.tmps.toList prot) {j:Nat} (hj:j∈Region.ready .any ops R) (hV:¬On V j) (hF:j∉bW flo):j∈Region.ready .any ops (eF (bW flo) V):=by
  obtain ⟨hun,o,ho,hdep⟩:=mem_ready.1 hj
  have hsz:∀(l:List Nat) (V:Array Bool),(eF l V).size=V.size:=by
    intro l
    induction l with
    | nil=>intro V;rfl
    | cons i l ih=>intro V;rw [eF,ih];simp
  have hlt:=(Array.getElem?_eq_some_iff.1 ho).1
  refine mem_ready.2 ⟨FZ (by rw [hsz,inv.vs];exact hlt) fun h=> ?_,o,ho,fun e he hb=> ?_⟩
  · rcases qR h with h | h
    · exact hF h
    · exact hV h
  · have h1:=hdep e he hb
    by_cases hv:On V e.on
    · exact lB (.inl hv)
    · refine lB (.inr ⟨inv.rv e.on h1 hv, ?_⟩)
      have h2:=inv.rs
      have h3:=inv.vs
      rcases Nat.lt_or_ge e.on R.size with h | h
      · omega
      · simp [Array.getElem?_eq_none h] at h1
theorem tU {i:Nat}:∀{l:List Nat} {k:Nat},k∈l→k≠i→k∈jz i l
 | a::l,k,h,hn=>by
  simp only [jz]
  cases hb:Nat.beq a i with
  | true=>
   have:=Nat.eq_of_beq_eq_true hb
   simp only [cond_true]
   rcases List.mem_cons.1 h with h | h
   ·exact absurd (h.trans this) hn
   ·exact tU h hn
  | false=>
   simp only [cond_false]
   rcases List.mem_cons.1 h with h | h
   ·rw [h];exact List.mem_cons_self
   ·exact List.mem_cons_of_mem _ (tU h hn)
theorem tV {i:Nat}:∀{l:List Nat} {k:Nat},k∈jz i l→k∈l
 | a::l,k,h=>by
  simp only [jz] at h
  cases hb:Nat.beq a i with
  | true=>rw [hb] at h;exact List.mem_cons_of_mem _ (tV h)
  | false=>
   rw [hb] at h
   rcases List.mem_cons.1 h with h | h
   ·rw [h];exact List.mem_cons_self
   ·exact List.mem_cons_of_mem _ (tV h)
theorem xP (inv:VInv P G ops flo σ T T0 V R pend g w a.tmps.toList prot) {j i0:Nat} (hn:¬On R i0) (hj:j∈Region.ready .any ops R) (hV:¬On V j) (hF:j∉bW flo):j∈Region.ready .any ops (eF (jz i0 (bW flo)) V):=by
  obtain ⟨hun,o,ho,hdep⟩:=mem_ready.1 hj
  have hsz:∀(l:List Nat) (V:Array Bool),(eF l V).size=V.size:=by
    intro l
    induction l with
    | nil=>intro V;rfl
    | cons i l ih=>intro V;rw [eF,ih];simp
  have hlt:=(Array.getElem?_eq_some_iff.1 ho).1
  refine mem_ready.2 ⟨FZ (by rw [hsz,inv.vs];exact hlt) fun h=> ?_,o,ho,fun e he hb=> ?_⟩
  · rcases qR h with h | h
    · exact hF (tV h)
    · exact hV h
  · have h1:=hdep e he hb
    by_cases hv:On V e.on
    · exact lB (.inl hv)
    · refine lB (.inr ⟨tU (inv.rv e.on h1 hv) (fun h=>hn (h▸h1)), ?_⟩)
      have h2:=inv.rs
      have h3:=inv.vs
      rcases Nat.lt_or_ge e.on R.size with h | h
      · omega
      · simp [Array.getElem?_eq_none h] at h1
def mU (R:Array Bool):Nat:=R.toList.count false
theorem IS {R:Array Bool} {i:Nat} (hi:i<R.size) (h:¬On R i):mU (R.setIfInBounds i true)+1≤mU R:=by
 unfold mU
 rw [Array.toList_setIfInBounds]
 have hl:i<R.toList.length:=by simpa using hi
 have h0:R.toList[i]=false:=by
  unfold On at h
  simp [hi] at h ⊢;exact h
 have hm:false∈R.toList:=by rw [←h0];exact List.getElem_mem hl
 have hpos:0<R.toList.count false:=List.count_pos_iff.2 hm
 rw [List.count_set hl,h0]
 simp only [beq_self_eq_true,if_true,Nat.add_zero,show ((true:Bool)==false)=false from rfl,Bool.false_eq_true,if_false]
 omega
theorem F0 {R:Array Bool} (h:mU R=0):∀i,i<R.size→On R i:=fun i hi=>by
 unfold mU at h
 have h1:false∉R.toList:=List.count_eq_zero.1 h
 unfold On
 simp [hi]
 cases hq:R[i] with
 | true=>rfl
 | false=>
  exfalso
  apply h1
  rw [←hq]
  exact Array.mem_toList_iff.2 (Array.getElem_mem hi)
theorem qS (hf:fg ops=true) {R:Array Bool} (hs:R.size=ops.size) (h:Region.ready .any ops R= []):∀i,i<ops.size→On R i:=pq hf hs h
theorem Aa {R:Array Bool} (h:∀i,i<ops.size→On R i):Region.ready .any ops R= []:=by
 apply List.eq_nil_iff_forall_not_mem.2
 intro i hi
 obtain ⟨hun,o,ho,_⟩:=mem_ready.1 hi
 exact fq hun (h i (Array.getElem?_eq_some_iff.1 ho).1)
end
end
section
open Go.RowKit

section
variable {P:Program} {ops:Array Oper} {flo:List (Nat × Option Nat)} {F:List Nat}
theorem xQ {n:Nat}:∀{l:List Nat},uZ n l=true→∀i∈l,i<n
 | [],_,i,h=>by cases h
 | a::l,h,i,hi=>by
  simp only [uZ,Bool.and_eq_true] at h
  rcases List.mem_cons.1 hi with rfl | hi
  ·exact Nat.le_of_ble_eq_true h.1
  ·exact xQ h.2 i hi
theorem MaskOk.all {n:Nat}:∀(F:List Nat) (m:Nat) (V:Array Bool),MaskOk n m V→(∀i∈F,i<n)→MaskOk n (Nat.lor m (iM F)) (eF F V)
 | [],m,V,h,_=>by
  have:Nat.lor m (iM [])=m:=Nat.or_zero m
  rw [this];exact h
 | i::l,m,V,h,k=>by
  have h1:=MaskOk.all l _ _ (h.set (k i List.mem_cons_self)) fun j hj=>k j (List.mem_cons_of_mem _ hj)
  have e:Nat.lor m (iM (i::l))=Nat.lor (Nat.lor m (eD i)) (iM l):=(Nat.or_assoc m (eD i) (iM l)).symm
  rw [e];exact h1
theorem nW {i k:Nat}:∀{l:List Nat},k∈jz i l→k∈l
 | [],h=>by cases h
 | a::l,h=>by
  simp only [jz] at h
  cases hb:Nat.beq a i with
  | true=>rw [hb] at h;exact List.mem_cons_of_mem _ (nW h)
  | false=>
   rw [hb] at h
   rcases List.mem_cons.1 h with rfl | h
   ·exact List.mem_cons_self
   ·exact List.mem_cons_of_mem _ (nW h)
theorem Ab:∀(L:List Oper) (j:Nat),(iL L)[j]?=(L[j]?).map fun o=>dk o.after.toList
 | [],j=>by simp [iL]
 | o::L,0=>by simp [iL]
 | o::L,j+1=>by simpa [iL] using Ab L j
theorem Ek {m:Nat} {V:Array Bool} (h:MaskOk ops.size m V) (j:Nat):sE (iL ops.toList) m j=oT ops V j:=by
 unfold sE oT
 rw [Ab,Array.getElem?_toList]
 cases ops[j]? with
 | none=>rfl
 | some o=>exact Cz h o
theorem F1 {V:Array Bool} {j:Nat} (h:oT ops V j=true):j<ops.size:=by
 unfold oT at h
 split at h
 ·rename_i o ho;exact (Array.getElem?_eq_some_iff.1 ho).1
 ·cases h
theorem u7 (hf:fg ops=true) {i:Nat} (hi:i<ops.size):∀{l:List Nat},oU ops.size (pD ops.toList 0 []) i l=true→(l.all fun k=>qk ops ops.size i k)=true
 | [],_=>rfl
 | k::l,h=>by
  simp only [oU,Bool.and_eq_true] at h
  rw [List.all_cons,Md hf hi h.1,u7 hf hi h.2];rfl
theorem eG (hf:fg ops=true) (hF:∀i∈F,i<ops.size):∀(l:List (Nat × FK)) (m:Nat) (V:Array Bool) (pend:List Nat),MaskOk ops.size m V→
  cH P ops (iL ops.toList) (pD ops.toList 0 []) flo F l m pend=true→bU P ops flo F l V pend=true
 | [],m,V,pend,hm,h=>by
  simp only [cH] at h
  simp only [bU,dW hm];exact h
 | (i, .own)::l,m,V,pend,hm,h=>by
  simp only [cH,Bool.and_eq_true] at h
  obtain ⟨⟨⟨h1,h2⟩,h3⟩,h4⟩:=h
  rw [←dW hm] at h1
  have hlt:i<ops.size:=by
   obtain ⟨_,o,ho,_⟩:=mem_ready.1 (bI.1 h1)
   exact (Array.getElem?_eq_some_iff.1 ho).1
  simp only [bU,Bool.and_eq_true]
  exact ⟨⟨⟨h1,h2⟩,h3⟩,eG hf hF l _ _ _ (hm.set hlt) h4⟩
 | (i, .turn pe)::l,m,V,pend,hm,h=>by
  simp only [cH,Bool.and_eq_true] at h
  obtain ⟨⟨⟨⟨h0,h1⟩,h2⟩,h3⟩,h4⟩:=h
  rw [←dW hm] at h1
  rw [←dW (hm.all F _ _ hF)] at h3
  have hlt:i<ops.size:=by
   obtain ⟨_,o,ho,_⟩:=mem_ready.1 (bI.1 h1)
   exact (Array.getElem?_eq_some_iff.1 ho).1
  simp only [bU,Bool.and_eq_true]
  exact ⟨⟨⟨⟨h0,h1⟩,h2⟩,h3⟩,eG hf hF l _ _ _ (hm.set hlt) h4⟩
 | (i, .put pe)::l,m,V,pend,hm,h=>by
  simp only [cH,Bool.and_eq_true] at h
  obtain ⟨⟨⟨⟨h0,h1⟩,h2⟩,h3⟩,h4⟩:=h
  rw [←dW hm] at h1
  rw [←dW (hm.all F _ _ hF)] at h3
  have hlt:i<ops.size:=by
   obtain ⟨_,o,ho,_⟩:=mem_ready.1 (bI.1 h1)
   exact (Array.getElem?_eq_some_iff.1 ho).1
  simp only [bU,Bool.and_eq_true]
  exact ⟨⟨⟨⟨h0,h1⟩,h2⟩,h3⟩,eG hf hF l _ _ _ (hm.set hlt) h4⟩
 | (i, .bar)::l,m,V,pend,hm,h=>by
  simp only [cH,Bool.and_eq_true] at h
  obtain ⟨⟨⟨⟨h1,h2⟩,h3⟩,h5⟩,h4⟩:=h
  rw [←dW hm] at h1
  rw [←dW (hm.all F _ _ hF)] at h3
  have hlt:i<ops.size:=by
   obtain ⟨_,o,ho,_⟩:=mem_ready.1 (bI.1 h1)
   exact (Array.getElem?_eq_some_iff.1 ho).1
  simp only [bU,Bool.and_eq_true]
  exact ⟨⟨⟨⟨h1,h2⟩,h3⟩,u7 hf hlt h5⟩,eG hf hF l _ _ _ (hm.set hlt) h4⟩
 | (i, .late)::l,m,V,pend,hm,h=>by
  simp only [cH,Bool.and_eq_true] at h
  obtain ⟨⟨⟨h0,h1⟩,h3⟩,h4⟩:=h
  rw [←dW hm] at h1
  rw [←dW (hm.all (jz i F) _ _ fun k hk=>hF k (nW hk))] at h3
  have hlt:i<ops.size:=by
   obtain ⟨_,o,ho,_⟩:=mem_ready.1 (bI.1 h1)
   exact (Array.getElem?_eq_some_iff.1 ho).1
  simp only [bU,Bool.and_eq_true]
  exact ⟨⟨⟨by simpa only [Bool.and_eq_true] using h0,h1⟩,h3⟩,eG hf hF l _ _ _ (hm.set hlt) h4⟩
 | (i, .box j)::l,m,V,pend,hm,h=>by
  simp only [cH,Bool.and_eq_true] at h
  obtain ⟨⟨⟨⟨h0,h1⟩,h2⟩,h3⟩,h4⟩:=h
  rw [←dW hm] at h1
  rw [←dW (hm.all (jz j F) _ _ fun k hk=>hF k (nW hk))] at h3
  have hlt:i<ops.size:=by
   obtain ⟨_,o,ho,_⟩:=mem_ready.1 (bI.1 h1)
   exact (Array.getElem?_eq_some_iff.1 ho).1
  rw [Ek (hm.set hlt)] at h2
  have hltj:=F1 h2
  simp only [bU,Bool.and_eq_true]
  exact ⟨⟨⟨⟨by simpa only [Bool.and_eq_true] using h0,h1⟩,h2⟩,h3⟩,eG hf hF l _ _ _ ((hm.set hlt).set hltj) h4⟩
theorem ka:∀(L:List Oper) (k d i:Nat),(d,i)∈fE k L ↔ ∃j o,L[j]?=some o∧i=k+j∧o.dst=some d
  | [],k,d,i=>by simp [fE]
  | o::L,k,d,i=>by
    have ih:=ka L (k+1) d i
    have step:(∃j o',L[j]?=some o' ∧i=k+1+j∧o'.dst=some d) ↔ ∃j o',(o::L)[j+1]?=some o' ∧i=k+(j+1)∧o'.dst=some d:=by
      constructor
      · rintro ⟨j,o',h1,h2,h3⟩;exact ⟨j,o',by simpa using h1,by omega,h3⟩
      · rintro ⟨j,o',h1,h2,h3⟩;exact ⟨j,o',by simpa using h1,by omega,h3⟩
    simp only [fE]
    split
    · rename_i d' hd'
      rw [List.mem_cons,ih,step]
      constructor
      · rintro (h | ⟨j,o',h⟩)
        · injection h with h1 h2
          exact ⟨0,o,rfl,by omega,by rw [hd',h1]⟩
        · exact ⟨j+1,o',h⟩
      · rintro ⟨j,o',h1,h2,h3⟩
        cases j with
        | zero=>
          simp at h1;subst h1
          rw [hd'] at h3;injection h3 with h3
          left;rw [h3,h2];rfl
        | succ j=>exact .inr ⟨j,o',h1,h2,h3⟩
    · rename_i hd'
      rw [ih,step]
      constructor
      · rintro ⟨j,o',h⟩;exact ⟨j+1,o',h⟩
      · rintro ⟨j,o',h1,h2,h3⟩
        cases j with
        | zero=>
          simp at h1;subst h1
          rw [hd'] at h3;cases h3
        | succ j=>exact ⟨j,o',h1,h2,h3⟩
theorem te:∀{W:List (Nat × Nat)} {m:Nat},pE W m=true→(∀p∈W,m.testBit p.1=false)∧W.Pairwise fun p q=>p.1≠q.1
  | [],_,_=>⟨by simp,List.Pairwise.nil⟩
  | p::l,m,h=>by
    simp only [pE] at h
    cases hb:fY m p.1 with
    | true=>rw [hb] at h;cases h
    | false=>
      rw [hb,cond_false] at h
      obtain ⟨h1,h2⟩:=te h
      rw [nR] at hb
      refine ⟨fun q hq=> ?_,List.pairwise_cons.2 ⟨fun q hq he=> ?_,h2⟩⟩
      · rcases List.mem_cons.1 hq with rfl | hq
        · exact hb
        · have:=h1 q hq
          rw [kL,Bool.or_eq_false_iff] at this
          exact this.1
      · have:=h1 q hq
        rw [kL,Bool.or_eq_false_iff,nS,decide_eq_false_iff_not] at this
        exact this.2 he
theorem nX:∀{W:List (Nat × Nat)},(W.Pairwise fun p q=>p.1≠q.1)→∀{d i:Nat},(d,i)∈W→qK W d=some i
 | [],_,_,_,h=>by cases h
 | p::l,hp,d,i,h=>by
  simp only [qK]
  rcases List.mem_cons.1 h with rfl | h
  ·simp [Nat.beq_refl]
  ·have hne:=(List.pairwise_cons.1 hp).1 _ h
   cases hb:Nat.beq p.1 d with
   | true=>exact absurd (Nat.eq_of_beq_eq_true hb) hne
   | false=>rw [cond_false];exact nX (List.pairwise_cons.1 hp).2 h
theorem u9 {W:List (Nat × Nat)} {d:Nat}:∀{l:List Nat},oV W d l=true→∀s∈l,∀i,qK W s=some i→fY d i=true
 | [],_,s,h=>by cases h
 | a::l,h,s,hs=>by
  simp only [oV,Bool.and_eq_true] at h
  intro i hi
  rcases List.mem_cons.1 hs with rfl | hs
  ·have h1:=h.1
   rw [hi] at h1;exact h1
  ·exact u9 h.2 s hs i hi
theorem xR {W:List (Nat × Nat)}:∀{L:List Oper},uY ops W L=true→∀o∈L,oV W (dk o.after.toList) (o.looksAt ops)=true
 | [],_,o,h=>by cases h
 | a::l,h,o,ho=>by
  simp only [uY,Bool.and_eq_true] at h
  rcases List.mem_cons.1 ho with rfl | ho
  ·exact h.1
  ·exact xR h.2 o ho
theorem IT (hf:fg ops=true) (h:D7 ops=true):qI ops=true:=by
 unfold D7 at h
 rw [Bool.and_eq_true] at h
 obtain ⟨h1,h2⟩:=h
 obtain ⟨_,hp⟩:=te h1
 have look:∀(i j d:Nat) (o oj:Oper),ops[i]?=some o→o.dst=some d→ops[j]?=some oj→inList (oj.looksAt ops) d=true→∃e∈oj.after.toList,Region.binds .any e=true∧e.on=i:=fun i j d o oj ho hd hoj hl=>by
  have hm:(d,i)∈fE 0 ops.toList:=(ka _ _ _ _).2 ⟨i,o,by rw [Array.getElem?_toList];exact ho,by omega,hd⟩
  have hfw:=nX hp hm
  have hmem:oj∈ops.toList:=by
   obtain ⟨hlt,he⟩:=Array.getElem?_eq_some_iff.1 hoj
   rw [←he];exact Array.mem_toList_iff.2 (Array.getElem_mem hlt)
  have:=u9 (xR h2 oj hmem) d (bI.1 hl) i hfw
  rw [nR] at this
  obtain ⟨e,he,hb,hon⟩:=(fD _ _).1 this
  exact ⟨e,he,hb,hon⟩
 unfold qI
 refine List.all_eq_true.2 fun i hi=> ?_
 cases ho:ops[i]? with
 | none=>rfl
 | some o=>
  simp only
  cases hd:o.dst with
  | none=>rfl
  | some d=>
   simp only [Bool.and_eq_true,Bool.not_eq_true']
   refine ⟨?_,List.all_eq_true.2 fun j hj=> ?_⟩
   ·cases hl:inList (o.looksAt ops) d with
    | false=>rfl
    | true=>
     obtain ⟨e,he,hb,hon⟩:=look i i d o o ho hd ho hl
     have:=(ej hf ho).1 e (Array.mem_toList_iff.1 he) hb
     omega
   ·by_cases hji:j=i
    ·subst hji;simp [Nat.beq_refl]
    ·cases hoj:ops[j]? with
     | none=>simp
     | some oj=>
      simp only [Bool.or_eq_true,Bool.and_eq_true]
      right
      refine ⟨?_, ?_⟩
      ·cases hdj:oj.dst with
       | none=>rfl
       | some d' =>
        simp only [Bool.not_eq_true']
        cases hb:Nat.beq d' d with
        | false=>rfl
        | true=>
         have:=Nat.eq_of_beq_eq_true hb
         subst this
         have m1:(d',i)∈fE 0 ops.toList:=(ka _ _ _ _).2 ⟨i,o,by rw [Array.getElem?_toList];exact ho,by omega,hd⟩
         have m2:(d',j)∈fE 0 ops.toList:=(ka _ _ _ _).2 ⟨j,oj,by rw [Array.getElem?_toList];exact hoj,by omega,hdj⟩
         have e1:=nX hp m1
         rw [nX hp m2] at e1
         injection e1 with e1
         exact absurd e1 hji
      ·cases hl:inList (oj.looksAt ops) d with
       | false=>exact .inl rfl
       | true=>
        right
        obtain ⟨e,he,hb,hon⟩:=look i j d o oj ho hd hoj hl
        exact List.any_eq_true.2 ⟨e,he,by rw [hb,hon,Nat.beq_refl];rfl⟩
end
end
section
open Go.RowKit

section
variable {P:Program} {G:aU} {F:iW} {ops:Array Oper} {r:Option Nat} {flo:List (Nat × Option Nat)} {σ:List TV} {T T0:VT} {V R:Array Bool} {pend:List Nat} {g:Gh} {w:World} {a:Act} {prot:Nat→Option Nat}
theorem El (st:VStat P ops flo) (inv:VInv P G ops flo σ T T0 V R pend g w a.tmps.toList prot) (hG:GOk G g w) (hbx:cX P G ops flo V σ flo=true) {QQ:Exit→Act→World→Prop} {K:Act→World→Prop} {j:Nat} (hj:j∈Region.ready .any ops R) (hVF:On V j∨(¬On V j∧j∈bW flo))
  (next:∀g' w' (a' :Act) prot',VInv P G ops flo σ T T0 V (R.setIfInBounds j true) pend g' w' a'.tmps.toList prot' →Evo g w g' w' →(∀n,Fix n g T w T w')→a'.defers=a.defers→K a' w'):wpOpIn (cP r) 0 P ops QQ j K a w:=by
 rcases hVF with hV | ⟨hV,hF⟩
 ·exact xO st inv hG hj hV fun g' w' a' =>next g' w' a' prot
 ·obtain ⟨i,jo,h1,h2⟩:=cd.1 hF
  rcases h2 with rfl | rfl
  ·exact Ei st inv h1 hj hV next
  ·exact Ej st inv hG hbx h1 hj hV fun g' w' a' =>next g' w' a' prot
theorem Em {QQ:Exit→Act→World→Prop} (h:Region.ready .any ops R= []) (hq:QQ .normal a w):∀fuel,wpAnyIn (cP r) 0 P .any ops QQ fuel R a w
 | 0=>⟨h,hq⟩
 | _+1=>⟨fun _=>hq,fun j hj=>by rw [h] at hj;cases hj⟩
theorem va {QQ:Exit→Act→World→Prop} (hf:fg ops=true) (hs:R.size=ops.size) {i:Nat} (hi:i<ops.size) (hn:¬On R i) {fuel:Nat} (hfu:mU R≤fuel)
  (step:∀n,n<fuel→∀j∈Region.ready .any ops R,mU (R.setIfInBounds j true)≤n→wpOpIn (cP r) 0 P ops QQ j (wpAnyIn (cP r) 0 P .any ops QQ n (R.setIfInBounds j true)) a w):wpAnyIn (cP r) 0 P .any ops QQ fuel R a w:=by
 cases fuel with
 | zero=>exact absurd (F0 (by omega) i (by rw [hs];exact hi)) hn
 | succ n=>
  refine ⟨fun h=>absurd (qS hf hs h i hi) hn,fun j hj=>step n (Nat.lt_succ_self n) j hj ?_⟩
  obtain ⟨hun,o,ho,_⟩:=mem_ready.1 hj
  have:=IS (R:=R) (i:=j) (by rw [hs];exact (Array.getElem?_eq_some_iff.1 ho).1) (fq hun)
  omega
theorem kb {l:List Nat} {q:Nat→Bool} (h:l.all q=true) {k:Nat} (hk:k∈l):q k=true:=List.all_eq_true.1 h k hk
theorem Ac:∀{l m:List Nat},zU l m=true→l=m
 | [], [],_=>rfl
 | a::l,b::m,h=>by
  simp only [zU,Bool.and_eq_true] at h
  rw [Nat.eq_of_beq_eq_true h.1,Ac h.2]
 | [],_::_,h=>by cases h
 | _::_, [],h=>by cases h
theorem vc {b:Bool} {X:Prop} {n:Nat} {op:Op} {l:List TV} (h:cond b X (aN n op l)):b=true∧X:=by
 cases b with
 | false=>exact h.elim
 | true=>exact ⟨rfl,h⟩
theorem Ad {id off n:Nat} {l:List Nat} (h:nU P G ops id off n σ l=true) {k:Nat} {o:Oper} (hk:k∈l) (ho:ops[k]?=some o) (hw:bX ops (only ops o σ) o=some true) (hp:bm P o.op (be G (only ops o σ))=none):apartRead P id off n o.op (be G (only ops o σ))=true:=by
 induction l with
 | nil=>cases hk
 | cons a l ih=>
  unfold nU at h
  rw [Bool.and_eq_true] at h
  rcases List.mem_cons.1 hk with e | hk
  ·subst e
   have h1:=h.1
   rw [ho] at h1
   simp only [hw,hp,Option.isSome_none,Bool.false_or] at h1
   exact h1
  ·exact ih h.2 hk
theorem Ci {T0 T1:VT} {l:List Nat} (h:pG P G ops T0 T1 σ l=true) {k:Nat} {o:Oper} {y:TV} (hk:k∈l) (ho:ops[k]?=some o) (hw:bX ops (only ops o σ) o=some true) (hp:bm P o.op (be G (only ops o σ))=none) (hr:bh P T0 o.op (be G (only ops o σ))=some y):bh P T1 o.op (be G (only ops o σ))=some y:=by
 induction l with
 | nil=>cases hk
 | cons a l ih=>
  unfold pG at h
  rw [Bool.and_eq_true] at h
  rcases List.mem_cons.1 hk with e | hk
  ·subst e
   have h1:=h.1
   rw [ho] at h1
   simp only [hw,hp,Option.isSome_none,Bool.false_or,hr] at h1
   split at h1
   ·rename_i x y' hx hy
    injection hx with hx;subst hx
    rw [hy,wD _ _ h1]
   ·rename_i hx;cases hx
   ·cases h1
  ·exact ih h.2 hk
theorem Cj {T0 T1:VT} {l:List Nat} (h:pH P G ops T0 T1 σ l) {k:Nat} {o:Oper} {y:TV} (hk:k∈l) (ho:ops[k]?=some o) (hw:bX ops (only ops o σ) o=some true) (hp:bm P o.op (be G (only ops o σ))=none) (hr:bh P T0 o.op (be G (only ops o σ))=some y):bh P T1 o.op (be G (only ops o σ))=some y:=by
 induction l with
 | nil=>cases hk
 | cons a l ih=>
  unfold pH at h
  rcases List.mem_cons.1 hk with e | hk
  ·subst e
   have h1:=h.1
   rw [ho] at h1
   simp only [hw,hp,Option.isSome_none,cond_false] at h1
   rw [←h1];exact hr
  ·exact ih h.2 hk
theorem SJ {b c:Bool} {A X:Prop} {n:Nat} {op:Op} {l:List TV} (h:cond b (A∧X) (cond c X (aN n op l))):(A∨c=true)∧X:=by
 cases b with
 | true=>exact ⟨.inl h.1,h.2⟩
 | false=>
  cases c with
  | true=>exact ⟨.inr rfl,h⟩
  | false=>exact h.elim
theorem VPi.mono {ro:Nat} {o:Oper} {s:List TV} {T:VT} {K K' :List TV→VT→Prop} (h:VPi P G ro o s T K) (k:∀s T,K s T→K' s T):VPi P G ro o s T K' :=
 fun r g w a next Q rw0 hG hσ hn=>h r g w a next Q rw0 hG hσ fun σ' T' g' w' a' hp hk=>hn σ' T' g' w' a' hp (k _ _ hk)
theorem IU {g:Gh} {w:World} (r:RW g T w) {ro:Nat} {t:TypeId} {id off:Nat} {x:TV} {ua u:Value} {T' :VT} (h:u3 P ro T t (.ptr id off) x=some T') (ha:VR g w (.ptr id off) ua) (hx:VR g w x u):
  ∃g' w',(Instr.storeAt t ua u).run P w= .ok () w' ∧VR g' w' (.val undef) undef∧Evo g w g' w' ∧RW g' T' w' ∧Fix ro g T w T' w' :=by
 unfold u3 at h
 split at h
 ·rename_i y T1 h1
  injection h with h;subst h
  obtain ⟨g',w',k1,_,k3,k4,k5⟩:=uN (P:=P) r h1 ha hx
  exact ⟨g',w',k1, .val _,k3,k4,k5⟩
 ·cases hr:Nat.ble ro id with
  | false=>simp only [hr] at h;cases h
  | true=>
   simp only [hr,cond_true,Option.map_eq_some_iff] at h
   obtain ⟨⟨y,T1⟩,h1,h2⟩:=h
   simp only at h2;subst h2
   obtain ⟨g',w',k1,_,k3,k4,k5⟩:=uM (P:=P) (ro:=ro) r h1 ha hx (Nat.le_of_ble_eq_true hr)
   exact ⟨g',w',k1, .val _,k3,k4,k5⟩
theorem xS {call:iN} {rnd:j9} (hc:io P G call) (hrr:jS P G rnd) (st:VStat P ops flo) {ro:Nat} {K:List TV→VT→Prop} {gs:Gh} {Ts:VT} {ws:World} {ds:List Deferred} {QQ:Act→World→Prop}
  (hq:∀σ' T' g' w' (a' :Act),K σ' T' →Evo gs ws g' w' →RW g' T' w' →VRs g' w' σ' a'.tmps.toList→a'.defers=ds→Fix ro gs Ts ws T' w' →QQ a' w'):
  ∀(fuel:Nat) (l:List (Nat × FK)) (V:Array Bool) (T0:VT) (pend:List Nat) (σ:List TV) (T:VT) (R:Array Bool) (g:Gh) (w:World) (a:Act) (prot:Nat→Option Nat),
   bU P ops flo (bW flo) l V pend=true→cm P G F call rnd ro ops flo V T0 l σ T K→VInv P G ops flo σ T T0 V R pend g w a.tmps.toList prot→GOk G g w→a.defers=ds→Evo gs ws g w→Fix ro gs Ts ws T w→ro≤T0.objs.length→mU R≤fuel→
   wpAnyIn (cP r) 0 P .any ops (fS QQ) fuel R a w:=by
 intro fuel
 induction fuel using Nat.strongRecOn with
 | _ fuel ihf=>
 intro l
 induction l with
 | nil=>
  intro V T0 pend σ T R g w a prot hp h inv hG hds hes hfx hro hfu
  have hallV:∀i,i<ops.size→On V i:=qS st.flow inv.vs (by simpa [bU] using hp)
  by_cases hall:∀i,i<ops.size→On R i
  ·refine Em (Aa hall) (hq σ T g w a h hes inv.base ⟨inv.rel.1,fun s x u hs hu=>inv.rel.2 s x u hs hu fun k o hk _=> ?_⟩ hds hfx) _
   have hlt:=(Array.getElem?_eq_some_iff.1 hk).1
   exact ⟨hallV k hlt,hall k hlt⟩
  ·obtain ⟨i,hi⟩:=Classical.not_forall.1 hall
   obtain ⟨hi,hn⟩:=Classical.not_imp.1 hi
   refine va st.flow inv.rs hi hn hfu fun n hlt j hj hoff=> ?_
   obtain ⟨_,o,ho,_⟩:=mem_ready.1 hj
   exact xO st inv hG hj (hallV j (Array.getElem?_eq_some_iff.1 ho).1) fun g' w' a' inv' e fx hd=>ihf n hlt [] V T0 pend σ T _ g' w' a' prot hp h inv' (hG.mono e) (hd.trans hds) (hes.trans e) (hfx.trans hes (fx ro)) hro hoff
 | cons p l ih=>
  intro V T0 pend σ T R g w a prot hp h inv hG hds hes hfx hro hfu
  obtain ⟨i,k⟩:=p
  --while it waits
  have wait:∀(hbx:cX P G ops flo V σ flo=true) {i0:Nat} (hi0:i0<ops.size) (hn0:¬On R i0)
    (hready:∀j∈Region.ready .any ops R,¬On V j→j∉bW flo→∀n,n<fuel→mU (R.setIfInBounds j true)≤n→wpOpIn (cP r) 0 P ops (fS QQ) j (wpAnyIn (cP r) 0 P .any ops (fS QQ) n (R.setIfInBounds j true)) a w),
    wpAnyIn (cP r) 0 P .any ops (fS QQ) fuel R a w:=fun hbx i0 hi0 hn0 hready=>by
   refine va st.flow inv.rs hi0 hn0 hfu fun n hlt j hj hoff=> ?_
   by_cases hVF:On V j∨(¬On V j∧j∈bW flo)
   ·exact El st inv hG hbx hj hVF fun g' w' a' prot' inv' e fx hd=>ihf n hlt ((i,k)::l) V T0 pend σ T _ g' w' a' prot' hp h inv' (hG.mono e) (hd.trans hds) (hes.trans e) (hfx.trans hes (fx ro)) hro hoff
   ·have h1:¬On V j:=fun h=>hVF (.inl h)
    exact hready j hj h1 (fun h=>hVF (.inr ⟨h1,h⟩)) n hlt hoff
  cases k with
  | own=>
   simp only [bU,Bool.and_eq_true,Bool.not_eq_true'] at hp
   obtain ⟨⟨⟨hri,hnF⟩,hnd⟩,hp⟩:=hp
   have hri:=bI.1 hri
   have hF:=fm hnF
   obtain ⟨_,o,ho,_⟩:=mem_ready.1 hri
   simp only [ho] at hnd hp
   simp only [cm,ho] at h
   replace h:=fp h
   have hsub:∀k∈pend,k∈(bif isRead P o.op then i::pend else pend):=fun k hk=>by
    cases isRead P o.op
    ·exact hk
    ·exact List.mem_cons_of_mem _ hk
   have go:∀{y},((bX ops (only ops o σ) o=some false∧y= .val undef)∨(bX ops (only ops o σ) o=some true∧(lA P G ⟨[], []⟩ o (only ops o σ) y∨(i∈(bif isRead P o.op then i::pend else pend)∧bm P o.op (be G (only ops o σ))=none∧bh P T0 o.op (be G (only ops o σ))=some y))))→
     cm P G F call rnd ro ops flo (V.setIfInBounds i true) T0 l (bx σ o.dst y) T K→wpAnyIn (cP r) 0 P .any ops (fS QQ) fuel R a w:=fun how h=>
    ih _ T0 _ _ T R g w a prot hp h (IR st inv ho hri hF hnd hsub how) hG hds hes hfx hro hfu
   split at h
   ·rename_i b hb
    cases b with
    | true=>
     simp only [cond_true] at h
     split at h
     ·rename_i y hy
      obtain ⟨hpu,h⟩:=h
      rcases FU hpu with h1 | ⟨h1,h2,h3⟩
      ·exact go (.inr ⟨hb, .inl h1⟩) h
      ·exact go (.inr ⟨hb, .inr ⟨by rw [h1];exact List.mem_cons_self,h2,h3⟩⟩) h
     ·exact h.elim
     ·split at h
      ·rename_i y hy
       rcases FV hy with h1 | ⟨h1,h2,h3⟩
       ·exact go (.inr ⟨hb, .inl h1⟩) h
       ·exact go (.inr ⟨hb, .inr ⟨by rw [h1];exact List.mem_cons_self,h2,h3⟩⟩) h
      ·exact h.elim
    | false=>
     simp only [cond_false] at h
     exact go (.inl ⟨hb,rfl⟩) h
   ·exact h.elim
  | turn pe=>
   simp only [bU,Bool.and_eq_true,Bool.not_eq_true'] at hp
   obtain ⟨⟨⟨⟨hpe,hri⟩,hnF⟩,hrd⟩,hp⟩:=hp
   have hpe:=Ac hpe
   subst hpe
   have hri:=bI.1 hri
   have hF:=fm hnF
   obtain ⟨hun,o,ho,_⟩:=mem_ready.1 hri
   simp only [cm,ho] at h
   replace h:=fp h
   split at h
   ·rename_i b hb
    cases hbx:cX P G ops flo V σ flo with
    | false=>rw [hbx] at h;exact h.elim
    | true=>
     rw [hbx] at h
     simp only [cond_true] at h
     have hnV:=fq hun
     have hle:T0.objs.length≤T.objs.length:=by
      have:=congrArg List.length inv.t0
      rw [List.length_take] at this;omega
     refine wait hbx (Array.getElem?_eq_some_iff.1 ho).1 (fun hR=>hF (inv.rv i hR hnV)) fun j hj hVj hFj n hlt hoff=> ?_
     have h1:=kb hrd (tT inv hj hVj hFj)
     simp only [Bool.or_eq_true] at h1
     rcases h1 with h1 | h1
     ·have h1:=Nat.eq_of_beq_eq_true h1
      subst h1
      have ht0T:T.takeO T0.objs.length=⟨T0.objs,T.tails⟩:=by unfold VT.takeO;rw [inv.t0]
      refine qQ st inv hG ho hj hri hF hb (ro:=ro) (X:=fun σ' T' =>(∀k ok y,k∈pe→ops[k]?=some ok→bX ops (only ops ok σ) ok=some true→bm P ok.op (be G (only ops ok σ))=none→bh P T0 ok.op (be G (only ops ok σ))=some y→bh P (T'.takeO T0.objs.length) ok.op (be G (only ops ok σ))=some y)∧cm P G F call rnd ro ops flo (V.setIfInBounds j true) (T'.takeO T0.objs.length) l σ' T' K)
       (fun hbt=> ?_) (fun hbf=> ?_) (pend' :=pe) (fun T' =>T'.takeO T0.objs.length) (fun σ' T' w' g' hX fx e=> ?_) (fun σ' T' k ok y hX h1 h2 _ h3 h4 h5=>⟨h1,hX.1 k ok y h1 h2 h3 h4 h5⟩) fun σ' T' g' w' a' hX inv' e fx hd=>ihf n hlt l _ _ pe σ' T' _ g' w' a' prot hp hX.2 inv' (hG.mono e) (hd.trans hds) (hes.trans e) (hfx.trans hes fx) (by
        have:=fx.len
        simp only [VT.takeO,List.length_take];omega) hoff
      ·rw [hbt] at h
       simp only [cond_true] at h
       refine VPi.mono (mC hc hrr h) fun s T' hk=> ?_
       obtain ⟨hsame,hk⟩:=SJ hk
       refine ⟨fun k ok y hk hok hwk hpu hrd=> ?_,hk⟩
       rcases hsame with hsame | hsame
       ·exact Cj hsame hk hok hwk hpu hrd
       ·exact Ci hsame hk hok hwk hpu hrd
      ·rw [hbf] at h
       simp only [cond_false] at h
       exact ⟨fun k ok y _ _ _ _ hrd=>lp (T0:=T0) (T:=T.takeO T0.objs.length) (by rw [ht0T];simp) hrd,h⟩
      ·simp only [VT.takeO,List.length_take]
       rw [List.take_eq_take_iff]
       omega
     ·exact absurd (bI.1 h1) hFj
   ·exact h.elim
  | bar=>
   simp only [bU,Bool.and_eq_true,Bool.not_eq_true'] at hp
   obtain ⟨⟨⟨⟨hri,hnF⟩,hrd⟩,hanc⟩,hp⟩:=hp
   have hri:=bI.1 hri
   have hF:=fm hnF
   obtain ⟨hun,o,ho,_⟩:=mem_ready.1 hri
   simp only [cm,ho] at h
   replace h:=fp h
   split at h
   ·rename_i b hb
    cases hbx:cX P G ops flo V σ flo with
    | false=>rw [hbx] at h;exact h.elim
    | true=>
     rw [hbx] at h
     simp only [cond_true] at h
     have hnV:=fq hun
     have hle:T0.objs.length≤T.objs.length:=by
      have:=congrArg List.length inv.t0
      rw [List.length_take] at this;omega
     refine wait hbx (Array.getElem?_eq_some_iff.1 ho).1 (fun hR=>hF (inv.rv i hR hnV)) fun j hj hVj hFj n hlt hoff=> ?_
     have h1:=kb hrd (tT inv hj hVj hFj)
     simp only [Bool.or_eq_true] at h1
     rcases h1 with h1 | h1
     ·have h1:=Nat.eq_of_beq_eq_true h1
      subst h1
      obtain ⟨_,oj,hoj,hdep⟩:=mem_ready.1 hj
      have hpe:∀k∈pend,On R k:=fun k hk=>pC inv.cr ops.size j k (List.all_eq_true.1 hanc k hk) fun o' ho' e he hbb=>by
       rw [hoj] at ho';injection ho' with ho';subst ho';exact hdep e he hbb
      refine qQ st inv hG ho hj hri hF hb (X:=fun σ' T' =>cm P G F call rnd ro ops flo (V.setIfInBounds j true) T' l σ' T' K) (fun hbt=>mC hc hrr (by rw [hbt] at h;exact h)) (fun hbf=>by rw [hbf] at h;exact h) (pend' := []) (fun T' =>T') (fun σ' T' w' g' _ fx e=>by simp) (fun _ _ k ok y _ h1 _ h2 _ _ _=>absurd (hpe k h1) h2) fun σ' T' g' w' a' hX inv' e fx hd=>ihf n hlt l _ T' [] σ' T' _ g' w' a' prot hp hX inv' (hG.mono e) (hd.trans hds) (hes.trans e) (hfx.trans hes fx) (Nat.le_trans (Nat.le_trans hro hle) fx.len) hoff
     ·exact absurd (bI.1 h1) hFj
   ·exact h.elim
  | put pe=>
   simp only [bU,Bool.and_eq_true,Bool.not_eq_true'] at hp
   obtain ⟨⟨⟨⟨hpe,hri⟩,hnF⟩,hrd⟩,hp⟩:=hp
   have hpe:=Ac hpe
   subst hpe
   have hri:=bI.1 hri
   have hF:=fm hnF
   obtain ⟨hun,o,ho,_⟩:=mem_ready.1 hri
   simp only [cm,ho] at h
   replace h:=fp h
   split at h
   ·rename_i b hb
    cases hbx:cX P G ops flo V σ flo with
    | false=>rw [hbx] at h;exact h.elim
    | true=>
     rw [hbx] at h
     simp only [cond_true] at h
     have hnV:=fq hun
     have hle:T0.objs.length≤T.objs.length:=by
      have:=congrArg List.length inv.t0
      rw [List.length_take] at this;omega
     refine wait hbx (Array.getElem?_eq_some_iff.1 ho).1 (fun hR=>hF (inv.rv i hR hnV)) fun j hj hVj hFj n hlt hoff=> ?_
     have h1:=kb hrd (tT inv hj hVj hFj)
     simp only [Bool.or_eq_true] at h1
     rcases h1 with h1 | h1
     ·have h1:=Nat.eq_of_beq_eq_true h1
      subst h1
      have ht0T:T.takeO T0.objs.length=⟨T0.objs,T.tails⟩:=by unfold VT.takeO;rw [inv.t0]
      refine qQ st inv hG ho hj hri hF hb (ro:=ro) (X:=fun σ' T' =>(T'.objs.length=T.objs.length∧∀k ok y,k∈pe→ops[k]?=some ok→bX ops (only ops ok σ) ok=some true→bm P ok.op (be G (only ops ok σ))=none→bh P T0 ok.op (be G (only ops ok σ))=some y→bh P (T'.takeO T0.objs.length) ok.op (be G (only ops ok σ))=some y)∧cm P G F call rnd ro ops flo (V.setIfInBounds j true) (T'.takeO T0.objs.length) l σ' T' K)
       (fun hbt=> ?_) (fun hbf=> ?_) (pend' :=pe) (fun T' =>T'.takeO T0.objs.length) (fun σ' T' w' g' hX fx e=> ?_) (fun σ' T' k ok y hX h1 h2 _ h3 h4 h5=>⟨h1,hX.1.2 k ok y h1 h2 h3 h4 h5⟩) fun σ' T' g' w' a' hX inv' e fx hd=>ihf n hlt l _ _ pe σ' T' _ g' w' a' prot hp hX.2 inv' (hG.mono e) (hd.trans hds) (hes.trans e) (hfx.trans hes fx) (by
        have:=hX.1.1
        simp only [VT.takeO,List.length_take];omega) hoff
      ·rw [hbt] at h
       simp only [cond_true] at h
       split at h
       ·rename_i t ad x hop
        split at h
        ·rename_i id off new had hnew
         split at h
         ·rename_i T1 hT1
          obtain ⟨hpa,h⟩:=vc h
          obtain ⟨hag,hlen⟩:=FW hnew hT1
          refine VPi.of (by rw [hop];rfl) fun g w ρ r hρ=> ?_
          have hax:=hρ ad
          rw [had] at hax
          obtain ⟨g',w',k1,k2,k3,k4,k5⟩:=IU (P:=P) r hT1 hax (hρ x)
          refine ⟨.skip,undef,g',w', .val undef,T1, ?_,rfl,⟨⟨hlen,fun k ok y hk hok hwk hpu hrd=> ?_⟩,h⟩,k2,k3,k4,k5⟩
          ·obtain ⟨dst,op,ty,pos,af,gd⟩:=o
           simp only at hop;subst hop
           simp [execOp,k1]
          ·have hap:=Ad hpa hk hok hwk hpu
           have h6:bh P (T.takeO T0.objs.length) ok.op (be G (only ops ok σ))=some y:=lp (T0:=T0) (T:=T.takeO T0.objs.length) (by rw [ht0T];simp) hrd
           rw [←Eh (AgreeOut.take hag) hap];exact h6
         ·exact h.elim
        ·exact h.elim
       ·exact h.elim
      ·rw [hbf] at h
       simp only [cond_false] at h
       refine ⟨⟨rfl,fun k ok y _ _ _ _ hrd=>lp (T0:=T0) (T:=T.takeO T0.objs.length) (by rw [ht0T];simp) hrd⟩,h⟩
      ·simp only [VT.takeO,List.length_take,List.take_take,Nat.min_self]
       congr 1
       omega
     ·exact absurd (bI.1 h1) hFj
   ·exact h.elim
  | late=>
   simp only [bU,Bool.and_eq_true] at hp
   obtain ⟨⟨⟨hfl,hri⟩,hrd⟩,hp⟩:=hp
   have hri:=bI.1 hri
   obtain ⟨hun,o,ho,_⟩:=mem_ready.1 hri
   have hf:(i,none)∈flo:=by
    obtain ⟨q,hq,h1⟩:=List.any_eq_true.1 hfl
    simp only [Bool.and_eq_true] at h1
    obtain ⟨q1,q2⟩:=q
    have h2:=Nat.eq_of_beq_eq_true h1.1
    simp only at h2
    subst h2
    cases q2 with
    | none=>exact hq
    | some _=>cases h1.2
   simp only [cm,ho] at h
   split at h
   ·rename_i y T' hy
    cases hbx:cX P G ops flo V σ flo with
    | false=>rw [hbx] at h;exact h.elim
    | true=>
     rw [hbx] at h
     simp only [cond_true] at h
     have hnV:=fq hun
     by_cases hR:On R i
     ·obtain ⟨o',d,b,h1,h2,h3,blk,f,vo,mk,h4,h5,h6,h7⟩:=inv.flt i none hf hR hnV
      rw [ho] at h1;injection h1 with h1;subst h1
      have h8:=h5 T
      rw [hy] at h8;injection h8 with h8;injection h8 with h8 h9;subst h8 h9
      have hlt:=(Array.getElem?_eq_some_iff.1 ho).1
      obtain ⟨g',prot',inv',e⟩:=u6 (V' :=V.setIfInBounds i true) (y:=mk T.objs.length) st inv ho hf hri hR (fun j hj=>by cases hj) (fun k=>⟨fun h=>by
        by_cases hik:i=k
        ·exact .inl (.inl hik.symm)
        ·exact .inr (bk hik h),fun h=>by
        rcases h with (h | h) | h
        ·subst h;exact jT (by rw [inv.vs];exact hlt)
        ·cases h
        ·exact b8 h⟩) (by simpa using inv.vs) (inv.cv.set hri) h3 h4.live (h4.or g w b h6) (fun d' u hd' hu g' hg' =>by
        rw [h2] at hd';injection hd' with hd';subst hd'
        rw [h7 u hu]
        exact h4.vr g' w _ b hg' (inv.pr i b h3).2.2.2.2.2 h6)
      exact ih _ T0 pend _ _ R g' w a prot' hp h inv' (hG.mono e) hds (hes.trans e) (hfx.trans hes CE) hro hfu
     ·refine wait hbx (Array.getElem?_eq_some_iff.1 ho).1 hR fun j hj hVj hFj n hlt hoff=> ?_
      exact absurd (bI.1 (kb hrd (xP inv hR hj hVj hFj))) hFj
   ·exact h.elim
  | box j=>
   simp only [bU,Bool.and_eq_true] at hp
   obtain ⟨⟨⟨⟨hfl,hri⟩,hdj⟩,hrd⟩,hp⟩:=hp
   have hri:=bI.1 hri
   obtain ⟨hun,o,ho,_⟩:=mem_ready.1 hri
   have hf:(i,some j)∈flo:=by
    obtain ⟨q,hq,h1⟩:=List.any_eq_true.1 hfl
    simp only [Bool.and_eq_true] at h1
    obtain ⟨q1,q2⟩:=q
    have h2:=Nat.eq_of_beq_eq_true h1.1
    simp only at h2
    subst h2
    cases q2 with
    | none=>cases h1.2
    | some j' =>
     have:=Nat.eq_of_beq_eq_true h1.2
     subst this;exact hq
   obtain ⟨o',ho',hlate,hbox⟩:=st.at hf
   rw [ho] at ho';injection ho' with ho';subst ho'
   obtain ⟨oj,hoj,hib,⟨e1,he1,hb1,hon1⟩,_⟩:=hbox j rfl
   simp only [cm,ho,hoj] at h
   split at h
   ·rename_i y T' hy
    cases hbx:cX P G ops flo V σ flo with
    | false=>rw [hbx] at h;exact h.elim
    | true=>
     rw [hbx] at h
     simp only [cond_true] at h
     have hnV:=fq hun
     have hlt:=(Array.getElem?_eq_some_iff.1 ho).1
     have hltj:=(Array.getElem?_eq_some_iff.1 hoj).1
     by_cases hR:On R i∧On R j
     ·obtain ⟨hR,hRj⟩:=hR
      obtain ⟨o',d,b,h1,h2,h3,oj',t,us,inf,h4,h5,h6,h7,h8,h9,h10⟩:=inv.flt i (some j) hf hR hnV
      rw [ho] at h1;injection h1 with h1;subst h1
      rw [hoj] at h4;injection h4 with h4;subst h4
      obtain ⟨new,k1,k2,k3⟩:=h10 hRj
      unfold FL at hy
      rw [k1] at hy
      injection hy with hy;injection hy with hy1 hy2;subst hy1 hy2
      have hji:i<j:=by
       have:=(ej st.flow hoj).1 e1 he1 hb1
       omega
      obtain ⟨g',prot',inv',e⟩:=u6 (V' :=(V.setIfInBounds i true).setIfInBounds j true) (y:= .ptr T.objs.length 0) (vo:= .cells new) st inv ho hf hri hR (fun j' hj' =>by injection hj' with hj';subst hj';exact hRj) (fun k=>⟨fun h=>by
        by_cases hjk:j=k
        ·exact .inl (.inr (by rw [hjk]))
        ·have h:=bk hjk h
         by_cases hik:i=k
         ·exact .inl (.inl hik.symm)
         ·exact .inr (bk hik h),fun h=>by
        rcases h with (h | h) | h
        ·subst h;exact b8 (jT (by rw [inv.vs];exact hlt))
        ·injection h with h;subst h;exact jT (by simp [inv.vs];exact hltj)
        ·exact b8 (b8 h)⟩) (by simpa using inv.vs) (by
        have hc1:=inv.cv.set hri
        intro k ok hk hon e he hb
        by_cases hjk:j=k
        ·subst hjk
         rw [hoj] at hk;injection hk with hk;subst hk
         refine b8 ?_
         unfold oT at hdj
         rw [hoj] at hdj
         have:=List.all_eq_true.1 hdj e (Array.mem_toList_iff.2 he)
         rw [hb] at this
         simpa only [Bool.not_true,Bool.false_or] using this
        ·exact b8 (hc1 k ok hk (bk hjk hon) e he hb)) h3 rfl ⟨us,t,h5,k2,k3⟩ (fun d' u hd' hu g' hg' =>by
        rw [h2] at hd';injection hd' with hd';subst hd'
        rw [h6 u hu]
        exact .ptr hg')
      exact ih _ T0 pend _ _ R g' w a prot' hp h inv' (hG.mono e) hds (hes.trans e) (hfx.trans hes CE) hro hfu
     ·have hn:∃i0,i0<ops.size∧¬On R i0:=by
       by_cases h1:On R i
       ·exact ⟨j,hltj,fun h2=>hR ⟨h1,h2⟩⟩
       ·exact ⟨i,hlt,h1⟩
      obtain ⟨i0,hi0,hn0⟩:=hn
      have hnj:¬On R j:=fun h=>by
       have hRi:=inv.cr j oj hoj h e1 he1 hb1
       rw [hon1] at hRi
       exact hR ⟨hRi,h⟩
      refine wait hbx hi0 hn0 fun j' hj hVj hFj n hlt hoff=> ?_
      exact absurd (bI.1 (kb hrd (xP inv hnj hj hVj hFj))) hFj
   ·exact h.elim
theorem F2 {α:Type} {b:Bool} {x y:α} (h:cond b (some x) none=some y):b=true∧x=y:=by
 cases b with
 | false=>cases h
 | true=>injection h with h;exact ⟨rfl,h⟩
theorem VInv.start (hσ:VRs g w σ a.tmps.toList) (hr:RW g T w):VInv P G ops flo σ T T (Array.replicate ops.size false) (Array.replicate ops.size false) [] g w a.tmps.toList fun _=>none:=by
 have hoff:∀k,¬On (Array.replicate ops.size false) k:=fun k h=>by
  unfold On at h
  rw [Array.getD_eq_getD_getElem?,Array.getElem?_replicate] at h
  split at h<;>simp at h
 refine ⟨by simp,by simp,fun k o _ hk=>absurd hk (hoff k),fun k o _ hk=>absurd hk (hoff k),fun k hk=>absurd hk (hoff k),fun k _ hk=>absurd hk (hoff k),fun i j _=>⟨fun h=>absurd h (hoff i),fun h=>absurd h (hoff j)⟩,⟨hσ.1,fun s x u hs hu _=>hσ.2 s x u hs hu⟩,fun k o _ hk=>absurd hk (hoff k),fun i jo _ hk=>absurd hk (hoff i),fun k b hk=>(by cases hk),fun i j b h=>(by cases h), ?_,List.take_length⟩
 refine hr.lessFr rfl rfl rfl fun b hb=> ?_
 rcases hb with hb | ⟨k,hk⟩
 ·exact hb
 ·cases hk
theorem tf {p:List (Nat × FK)} (h:kN P ops=some p):Region.noSelect ops=true∧VStat P ops (wE P ops)∧bU P ops (wE P ops) (bW (wE P ops)) p (Array.replicate ops.size false) []=true:=by
 unfold kN qL CC at h
 obtain ⟨hb,h⟩:=F2 h
 simp only [Bool.and_eq_true] at hb
 subst h
 obtain ⟨⟨⟨⟨⟨⟨h1,h2⟩,h3⟩,h4⟩,h5⟩,h6⟩,h7⟩:=hb
 exact ⟨h1,⟨h2,IT h2 h3,h4,h6⟩,eG h2 (xQ h5) _ _ _ _ (MaskOk.zero _) h7⟩
end
end
section
open Go.RowKit

section
variable {P:Program} {F:Fence} {n:Nat} {ops:Array Oper}
def Ae (ops:Array Oper) (t:Oper):Prop:=∀j,(dk t.after.toList).testBit j=decide (j<ops.size)
theorem F3 {t:Oper} (h:Nat.beq (dk t.after.toList) (2^ops.size-1)=true):Ae ops t:=by
 intro j
 rw [Nat.eq_of_beq_eq_true h,Nat.testBit_two_pow_sub_one]
theorem tg {t:Oper} (hf:fg ops=true) (ht:Ae ops t) {listed:Array Bool} (hsz:listed.size=ops.size) {i:Nat} (hi:i∈Region.ready .any (ops.push t) (listed.push false)):
  (i<ops.size∧i∈Region.ready .any ops listed)∨(i=ops.size∧∀j,j<ops.size→listed.getD j false=true):=by
 obtain ⟨hun,o,ho,hed⟩:=mem_ready.1 hi
 have hi' :i<(ops.push t).size:=(Array.getElem?_eq_some_iff.1 ho).1
 rw [Array.size_push] at hi'
 rw [Array.getElem?_push] at ho
 by_cases h:i=ops.size
 ·right
  refine ⟨h,fun j hj=> ?_⟩
  rw [if_pos h] at ho
  obtain rfl:t=o:=Option.some.inj ho
  obtain ⟨e,he,hb,hon⟩:=(fD _ _).1 ((ht j).trans (decide_eq_true hj))
  have h2:=hed e (Array.mem_toList_iff.1 he) hb
  rw [hon,eA _ _ (by omega)] at h2
  exact h2
 ·left
  rw [if_neg h] at ho
  have hlt' :i<ops.size:=by omega
  refine ⟨hlt',mem_ready.2 ⟨by rw [eA _ _ (by omega)] at hun;exact hun,o,ho,fun e he hb=> ?_⟩⟩
  have h1:=(ej hf ho).1 e he hb
  have h2:=hed e he hb
  rwa [eA _ _ (by omega)] at h2
theorem F4 {o:Oper} {a:Act} {w:World} {K:Act→World→Prop} {Q1 Q2:Act→World→Prop} (hh:o.wpIn F n P a w K (fS Q1)):o.wpIn F n P a w K (fS Q2):=by
 unfold Oper.wpIn at*
 refine ⟨hh.1, ?_⟩
 have hh:=hh.2
 generalize (o.semAt F.round a.eval).run P w=r at*
 have hl:∀{Q:Act→World→Prop},LetsOut (fS Q)→False:=fun h=>by
  obtain ⟨a₀,w₀,h₀⟩:=h;exact h₀
 cases r with
 | ok x w' =>
  cases x<;>simp only [Oper.uponIn] at hh ⊢<;>
   first
    | exact hh
    | exact ⟨hh.1,CallsIn.mono hh.2 (fun e w'' he=>by cases e<;>first | exact he | exact (hl he).elim)⟩
    | exact ⟨hh.1,RoundIn.mono hh.2 (fun e w'' he=>by cases e<;>first | exact he | exact (hl he).elim)⟩
 | halt x w' =>cases x<;>simp only [Oper.uponIn] at hh ⊢<;>exact hh.elim
theorem En {t:Oper} (hf:fg ops=true) (ht:Ae ops t) {Q:Act→World→Prop}:
    ∀(fuel:Nat) (listed:Array Bool) (a:Act) (w:World),listed.size=ops.size→
      wpAnyIn F n P .any ops (fS fun a w=>wpOpIn F n P (ops.push t) (fS Q) ops.size Q a w) fuel listed a w→
      wpAnyIn F n P .any (ops.push t) (fS Q) (fuel+1) (listed.push false) a w:=by
  have hdone:∀(listed:Array Bool),listed.size=ops.size→(∀j,j<ops.size→listed.getD j false=true)→
      Region.ready .any (ops.push t) ((listed.push false).setIfInBounds ops.size true)= []:=by
    intro listed hsz hall
    apply List.eq_nil_iff_forall_not_mem.2
    intro i hi
    obtain ⟨hun,o,ho,_⟩:=mem_ready.1 hi
    have hi' :i<(ops.push t).size:=(Array.getElem?_eq_some_iff.1 ho).1
    rw [Array.size_push] at hi'
    have:((listed.push false).setIfInBounds ops.size true).getD i true=true:=by
      by_cases h:i=ops.size
      · subst h
        simp
      · rw [getD_set_ne true (Ne.symm h),eA _ _ (by omega)]
        have h3:=hall i (by omega)
        have hb:i<listed.size:=by omega
        simp [hb] at h3 ⊢;exact h3
    rw [this] at hun
    cases hun
  have hlast:∀(fuel:Nat) (listed:Array Bool) (a:Act) (w:World),listed.size=ops.size→(∀j,j<ops.size→listed.getD j false=true)→
      wpOpIn F n P (ops.push t) (fS Q) ops.size Q a w→wpOpIn F n P (ops.push t) (fS Q) ops.size (wpAnyIn F n P .any (ops.push t) (fS Q) fuel ((listed.push false).setIfInBounds ops.size true)) a w:=by
    intro fuel listed a w hsz hall h
    refine wpOpIn_mono (fun a' w' hq=> ?_) h
    cases fuel with
    | zero=>exact ⟨hdone listed hsz hall,hq⟩
    | succ k=>exact ⟨fun _=>hq,fun i hi=>by rw [hdone listed hsz hall] at hi;cases hi⟩
  have hnot:∀(listed:Array Bool),listed.size=ops.size→(∀j,j<ops.size→listed.getD j false=true)→ops.size∈Region.ready .any (ops.push t) (listed.push false):=by
    intro listed hsz hall
    refine mem_ready.2 ⟨?_,t,by simp,fun e he hb=> ?_⟩
    · simp [←hsz]
    · have h1:=(fD t.after.toList e.on).2 ⟨e,Array.mem_toList_iff.2 he,hb,rfl⟩
      rw [ht] at h1
      have h1:=of_decide_eq_true h1
      rw [eA _ _ (by omega)]
      exact hall e.on h1
  intro fuel
  induction fuel with
  | zero=>
    intro listed a w hsz h
    have hall:=pq hf hsz h.1
    refine ⟨fun h0=> ?_,fun i hi=> ?_⟩
    · have:=hnot listed hsz hall
      rw [h0] at this;cases this
    · rcases tg hf ht hsz hi with ⟨h1,h2⟩ | ⟨rfl,h2⟩
      · rw [h.1] at h2;cases h2
      · exact hlast 0 listed a w hsz hall h.2
  | succ fuel ih=>
    intro listed a w hsz h
    refine ⟨fun h0=> ?_,fun i hi=> ?_⟩
    · have hr:Region.ready .any ops listed= []:=by
        apply List.eq_nil_iff_forall_not_mem.2
        intro i hi
        have hi2:i∈Region.ready .any (ops.push t) (listed.push false):=by
          obtain ⟨hun,o,ho,hed⟩:=mem_ready.1 hi
          have hlt:i<ops.size:=(Array.getElem?_eq_some_iff.1 ho).1
          refine mem_ready.2 ⟨by rw [eA _ _ (by omega)];exact hun,o,by rw [Array.getElem?_push,if_neg (by omega)];exact ho,fun e he hb=> ?_⟩
          have:=(ej hf ho).1 e he hb
          rw [eA _ _ (by omega)]
          exact hed e he hb
        rw [h0] at hi2;cases hi2
      have:=hnot listed hsz (pq hf hsz hr)
      rw [h0] at this;cases this
    · rcases tg hf ht hsz hi with ⟨h1,h2⟩ | ⟨rfl,h2⟩
      · have h3:=h.2 i h2
        obtain ⟨_,o,ho,_⟩:=mem_ready.1 h2
        rw [Ih (by omega)]
        unfold wpOpIn at h3 ⊢
        rw [Array.getElem?_push,if_neg (by omega)]
        simp only [ho] at h3 ⊢
        rw [B9 hf t ho]
        split at h3
        · rename_i hw
          rw [if_pos hw]
          exact F4 (Oper.wpIn_mono (fun a' w' hq=>ih (listed.setIfInBounds i true) a' w' (by simpa using hsz) hq) h3)
        · rename_i hw
          rw [if_neg hw]
          exact ⟨h3.1,ih (listed.setIfInBounds i true) _ w (by simpa using hsz) h3.2⟩
      · have hr:Region.ready .any ops listed= []:=by
          apply List.eq_nil_iff_forall_not_mem.2
          intro j hj
          obtain ⟨hun,o,ho,_⟩:=mem_ready.1 hj
          have hlt:j<ops.size:=(Array.getElem?_eq_some_iff.1 ho).1
          have h3:=h2 j hlt
          have hb:j<listed.size:=by omega
          simp [hb] at h3 hun
          rw [h3] at hun;cases hun
        exact hlast _ listed a w hsz h2 (h.1 hr)
theorem wK (n:Nat):Array.replicate (n+1) false=(Array.replicate n false).push false:=Array.replicate_succ
end
end
section
open Go.RowKit

section
variable {P:Program} {G:aU} {F:iW}
theorem Fix.of_min {ro:Nat} {g:Gh} {T T' :VT} {w w' :World} (h:Fix (min ro T.objs.length) g T w T' w'):Fix ro g T w T' w' :=
 ⟨h.len,fun i hi hl=>h.same i (by omega) hl,fun i o b hi ho=>h.heap i o b (by have:=(List.getElem?_eq_some_iff.1 ho).1;omega) ho⟩
theorem Af {ops:Array Oper} {p:List (Oper × PK)} (h:wG P ops=some p):kM P ops=some p:=by
 unfold wG at h
 split at h
 ·rename_i q hq
  cases hb:(Eb q&&(kN P ops).isSome) with
  | true=>rw [hb] at h;cases h
  | false=>rw [hb] at h;rw [hq];exact h
 ·cases h
theorem Ag {ops:Array Oper} {p:List (Oper × PK)} (h:wH P F ops=some p):kM P ops=some p:=by
 unfold wH at h
 cases hb:(F ⟨some 999999, .move (.tmp 0),0, "", #[],none⟩ [] ⟨[], []⟩).isSome with
 | true=>rw [hb] at h;exact h
 | false=>
  rw [hb,cond_false] at h
  cases hs:Nat.ble ops.size 12 with
  | true=>rw [hs] at h;exact Af h
  | false=>rw [hs] at h;cases h
theorem IV {call:iN} {rnd:j9} (hc:io P G call) (hrr:jS P G rnd) (hm:P.follows .mixedOrders=true) {rd:Option Nat} {ro id:Nat} {ops:Array Oper} {σ:List TV} {T:VT} {D:List Nat} {Q:KX}
  (h:Ec P G F call rnd ro ops σ T fun σ T=>Q .normal σ T D):VWx P G rd ro (.region id ops true) σ T D Q:=by
 intro r g w a rw0 hG hσ hd hD hrd
 unfold Ec at h
 cases hb:zT ops with
 | false=>rw [hb] at h;exact h.elim
 | true=>
  rw [hb] at h
  simp only [cond_true] at h
  have hnd:∀(j:Nat) o,ops[j]?=some o→ce o.op=true:=fun j o ho=>by
   obtain ⟨hlt,he⟩:=Array.getElem?_eq_some_iff.1 ho
   exact List.all_eq_true.1 hb o (by rw [←he];exact Array.mem_toList_iff.2 (Array.getElem_mem hlt))
  have old:∀p,kM P ops=some p→dR P G F call rnd ro ops T false p σ T (fun σ T=>Q .normal σ T D)→(Code.region id ops true).wpIn (cP r) 0 P (fun e a' w' =>∃g' σ' T' D',Q e σ' T' D' ∧Evo g w g' w' ∧RW g' T' w' ∧VRs g' w' σ' a'.tmps.toList∧a'.defers=D'.map (mk g')∧(∀id∈D',(g'.obj id).isSome=true)∧Fix ro g T w T' w') a w:=fun p hp h=>by
   unfold kM at hp
   split at hp
   ·rename_i pl hpl
    cases hk:(Region.noSelect ops&&Nat.beq pl.length ops.size&&mz ops pl (Array.replicate ops.size false)) with
    | false=>rw [hk] at hp;cases hp
    | true=>
     rw [hk] at hp
     simp only [Bool.and_eq_true] at hk
     obtain ⟨⟨hns,hlen⟩,hchk⟩:=hk
     have hlen:=Nat.eq_of_beq_eq_true hlen
     injection hp with hp;subst hp
     have e0:=Evo.of_gr rw0 (Gr.refl w).drew
     have f0:Fix (min ro T.objs.length) g T w T w.drew:=Fix.of_same (Same.of_gr rw0 (Gr.refl w).drew) List.take_length
     have r1:RW g T w.drew:=rw0.drew
     have key:=gq (r:=r) hc hrr hnd (Region.noSelect_spec hns) (Nat.min_le_left ro T.objs.length) (K:=fun σ T=>Q .normal σ T D) (gs:=g) (Ts:=T) (ws:=w) (ds:=a.defers)
      (QQ:=fun a' w' =>∃g' σ' T' D',Q .normal σ' T' D' ∧Evo g w g' w' ∧RW g' T' w' ∧VRs g' w' σ' a'.tmps.toList∧a'.defers=D'.map (mk g')∧(∀id∈D',(g'.obj id).isSome=true)∧Fix ro g T w T' w')
      (fun σ' T' g' w' a' hk e r' hσ' hd' hx=>⟨g',σ',T',D,hk,e,r',hσ',by rw [hd',hd,lx e hD],fk e hD,hx.of_min⟩)
      pl (Array.replicate ops.size false) T false σ T hchk h g w.drew g w.drew a r1 (hG.mono e0) r1 (hσ.mono e0) rfl (Evo.refl _ _) (Same.refl _ _ _) List.take_length (fun _=>⟨rfl,rfl,rfl⟩) e0 f0 (Nat.min_le_right _ _)
      (fun k o _ hk=>absurd hk (by
       rw [Array.getD_eq_getD_getElem?,Array.getElem?_replicate]
       split<;>simp)) (by simp)
     rw [hlen] at key
     refine wpIn_mono (wpIn_region_any hm (uW _ _ _ _ key)) ?_
     intro e a' w' hq
     cases e<;>first | exact hq | exact hq.elim
   ·cases hp
  split at h
  ·rename_i p hp
   exact old p (Ag hp) h
  ·split at h
   ·rename_i p hp
    obtain ⟨hns,st,hchk⟩:=tf hp
    have e0:=Evo.of_gr rw0 (Gr.refl w).drew
    have f0:Fix (min ro T.objs.length) g T w T w.drew:=Fix.of_same (Same.of_gr rw0 (Gr.refl w).drew) List.take_length
    have r1:RW g T w.drew:=rw0.drew
    have key:=xS (r:=r) hc hrr st (K:=fun σ T=>Q .normal σ T D) (gs:=g) (Ts:=T) (ws:=w) (ds:=a.defers)
     (QQ:=fun a' w' =>∃g' σ' T' D',Q .normal σ' T' D' ∧Evo g w g' w' ∧RW g' T' w' ∧VRs g' w' σ' a'.tmps.toList∧a'.defers=D'.map (mk g')∧(∀id∈D',(g'.obj id).isSome=true)∧Fix ro g T w T' w')
     (fun σ' T' g' w' a' hk e r' hσ' hd' hx=>⟨g',σ',T',D,hk,e,r',hσ',by rw [hd',hd,lx e hD],fk e hD,hx.of_min⟩)
     ops.size p (Array.replicate ops.size false) T [] σ T (Array.replicate ops.size false) g w.drew a (fun _=>none) hchk h (VInv.start (hσ.mono e0) r1) (hG.mono e0) rfl e0 f0 (Nat.min_le_right _ _) (by
      unfold mU
      rw [Array.toList_replicate]
      exact Nat.le_trans List.count_le_length (by simp))
    refine wpIn_mono (wpIn_region_any hm key) ?_
    intro e a' w' hq
    cases e<;>first | exact hq | exact hq.elim
   ·split at h
    ·rename_i p hp
     exact old p hp h
    ·split at h
     ·rename_i t p hl hp
      obtain ⟨ys,hys⟩:=List.getLast?_eq_some_iff.1 hl
      obtain rfl:ops=ys.toArray.push t:=by
       have:=congrArg List.toArray hys
       simpa using this
      have hcut:(ys.toArray.push t).toList.dropLast.toArray=ys.toArray:=by simp
      rw [hcut] at hp h
      cases hb2:(t.guard.isNone&&Nat.beq (dk t.after.toList) (2^ys.toArray.size-1)) with
      | false=>rw [hb2] at h;exact h.elim
      | true=>
       rw [hb2] at h
       simp only [cond_true] at h
       simp only [Bool.and_eq_true] at hb2
       obtain ⟨hgd,hlast⟩:=hb2
       obtain ⟨hns,st,hchk⟩:=tf hp
       have e0:=Evo.of_gr rw0 (Gr.refl w).drew
       have f0:Fix (min ro T.objs.length) g T w T w.drew:=Fix.of_same (Same.of_gr rw0 (Gr.refl w).drew) List.take_length
       have r1:RW g T w.drew:=rw0.drew
       have key:=xS (r:=r) hc hrr st (K:=fun σ' T' =>pF P G F call rnd (min ro T.objs.length) t σ' T' fun σ T=>Q .normal σ T D) (gs:=g) (Ts:=T) (ws:=w) (ds:=a.defers)
        (QQ:=fun a' w' =>wpOpIn (cP r) 0 P (ys.toArray.push t) (fS fun a' w' =>∃g' σ' T' D',Q .normal σ' T' D' ∧Evo g w g' w' ∧RW g' T' w' ∧VRs g' w' σ' a'.tmps.toList∧a'.defers=D'.map (mk g')∧(∀id∈D',(g'.obj id).isSome=true)∧Fix ro g T w T' w') ys.toArray.size
         (fun a' w' =>∃g' σ' T' D',Q .normal σ' T' D' ∧Evo g w g' w' ∧RW g' T' w' ∧VRs g' w' σ' a'.tmps.toList∧a'.defers=D'.map (mk g')∧(∀id∈D',(g'.obj id).isSome=true)∧Fix ro g T w T' w') a' w')
        (fun σ' T' g' w' a' hk e r' hσ' hd' hx=>by
         unfold wpOpIn
         have hw:Region.wanted t (yielded (ys.toArray.push t) a'.tmps)=true:=by
          unfold Region.wanted
          rw [Option.isNone_iff_eq_none.1 hgd]
         simp only [Array.getElem?_push,if_true,hw]
         exact mC hc hrr hk r g' w' a' _ _ r' (hG.mono e) hσ' fun σ'' T'' g'' w'' a'' _ hk' e' r'' hσ'' hd'' hx' =>⟨g'',σ'',T'',D,hk',e.trans e',r'',hσ'',by rw [hd'',hd',hd,lx (e.trans e') hD],fk (e.trans e') hD,(hx.trans e hx').of_min⟩)
        ys.toArray.size p (Array.replicate ys.toArray.size false) T [] σ T (Array.replicate ys.toArray.size false) g w.drew a (fun _=>none) hchk h (VInv.start (hσ.mono e0) r1) (hG.mono e0) rfl e0 f0 (Nat.min_le_right _ _) (by
         unfold mU
         rw [Array.toList_replicate]
         exact Nat.le_trans List.count_le_length (by simp))
       have key2:=En st.flow (F3 hlast) _ _ _ _ (by simp) key
       refine wpIn_mono (wpIn_region_any hm (by rw [Array.size_push,wK];exact key2)) ?_
       intro e a' w' hq
       cases e<;>first | exact hq | exact hq.elim
     ·exact h.elim
theorem VWx.here {rd:Option Nat} {ro:Nat} {c:Code} {σ:List TV} {T:VT} {D:List Nat} {Q:KX} {e:Exit} (h:Q e σ T D) (k:∀(F:Fence) (a:Act) w,∀R:Exit→Act→World→Prop,R e a w→c.wpIn F 0 P R a w):VWx P G rd ro c σ T D Q:=
 fun r g w a rw0 hG hσ hd hD _=>k _ a w _ ⟨g,σ,T,D,h,Evo.refl g w,rw0,hσ,hd,hD,Fix.refl _ _ _ _⟩
theorem VWx.seq {rd:Option Nat} {ro:Nat} {x y:Code} {σ:List TV} {T:VT} {D:List Nat} {Q:KX} (h:VWx P G rd ro x σ T D (pI (fun σ T D=>VWx P G rd ro y σ T D Q) Q)):VWx P G rd ro (.seq x y) σ T D Q:=by
 intro r g w a rw0 hG hσ hd hD hrd
 refine wpIn_seq (wpIn_mono (h r g w a rw0 hG hσ hd hD hrd) ?_)
 rintro e a' w' ⟨g',σ',T',D',hq,e1,r',hσ',hd',hD',hx⟩
 cases e<;>first
  | exact ⟨g',σ',T',D',hq,e1,r',hσ',hd',hD',hx⟩
  | exact wpIn_mono (hq r g' w' a' r' (hG.mono e1) hσ' hd' hD' (uU e1 hrd)) fun e a'' w'' ⟨g'',σ'',T'',D'',hq',e2,r2,s2,d2,dd2,x2⟩=>⟨g'',σ'',T'',D'',hq',e1.trans e2,r2,s2,d2,dd2,hx.trans e1 x2⟩
theorem VWx.block {rd:Option Nat} {ro id:Nat} {c:Code} {σ:List TV} {T:VT} {D:List Nat} {Q:KX} (h:VWx P G rd ro c σ T D (qM id Q)):VWx P G rd ro (.block id c) σ T D Q:=by
 intro r g w a rw0 hG hσ hd hD hrd
 refine wpIn_block (wpIn_mono (h r g w a rw0 hG hσ hd hD hrd) ?_)
 rintro e a' w' ⟨g',σ',T',D',hq,h⟩
 cases e with
 | exit id' =>
  simp only [Exit.inBlock]
  simp only [qM] at hq
  cases hb:Nat.beq id' id with
  | true=>
   rw [hb] at hq
   rw [if_pos (Nat.eq_of_beq_eq_true hb)];exact ⟨g',σ',T',D',hq,h⟩
  | false=>
   rw [hb] at hq
   rw [if_neg (Nat.ne_of_beq_eq_false hb)];exact ⟨g',σ',T',D',hq,h⟩
 | normal=>exact ⟨g',σ',T',D',hq,h⟩
 | goto l=>exact ⟨g',σ',T',D',hq,h⟩
 | ret=>exact ⟨g',σ',T',D',hq,h⟩
 | panic ch=>exact ⟨g',σ',T',D',hq,h⟩
 | outgrown=>exact ⟨g',σ',T',D',hq,h⟩
theorem VWx.cond {rd:Option Nat} {ro:Nat} {c:Operand} {x y:Code} {σ:List TV} {T:VT} {D:List Nat} {Q:KX} {b:Bool} (hc:be G σ c= .val (.bool b)) (ht:b=true→VWx P G rd ro x σ T D Q) (hf:b=false→VWx P G rd ro y σ T D Q):VWx P G rd ro (.cond c x y) σ T D Q:=by
 intro r g w a rw0 hG hσ hd hD hrd
 have h1:=dZ hG hσ c
 rw [hc] at h1
 exact wpIn_cond_split h1.val_inv (fun h=>ht h r g w a rw0 hG hσ hd hD hrd) (fun h=>hf h r g w a rw0 hG hσ hd hD hrd)
section
variable {b:Frame} {a:Act} {k:List Item} {cs:List Frame} {w:World}
theorem gM {c:Code}:step P (lone (b.atR a (.code (.scope c)::k)) cs w)= .next (lone (b.atR a (.code c:: .inScope c::k)) cs w):=
 step_lone_go (by simp [stepG,stepG.exec,Frame.atR])
theorem yP {c:Code}:step P (lone (b.atR a (.inScope c::k)) cs w)= .next (lone (b.atR a k) cs w):=
 step_lone_go (by simp [stepG,stepG.exec,Frame.atR])
end
def OB (Q:Exit→Act→World→Prop):Exit→Act→World→Prop
 | .goto _,_,_=>False
 | e,a,w=>Q e a w
theorem qv {F:Fence} {n:Nat} {Q:Exit→Act→World→Prop} {a:Act} {w:World} {c:Code} (h:c.wpIn F n P (OB Q) a w):(Code.scope c).wpIn F n P Q a w:=by
 intro b k cs hro hb hr
 have h0:(lone (b.atR a (.code (.scope c)::k)) cs w).fenced P F:=fenced_calm hb hr rfl
 obtain ⟨e,a₁,w₁,hq,harr⟩:=h b (.inScope c::k) cs hro hb hr
 cases e with
 | normal=>exact ⟨.normal,a₁,w₁,hq, .head h0 gM (StepsIn.trans harr (.one (fenced_calm hb hr rfl) yP))⟩
 | exit id=>
  have hx:exitTo id (.inScope c::k)=exitTo id k:=by simp [exitTo]
  exact ⟨.exit id,a₁,w₁,hq,fun k' hk=> .head h0 gM (harr.1 k' (by rw [hx];exact hk)),
   fun hr' hk=>let ⟨k₁,h1,h2⟩:=harr.2 hr' (by rw [hx];exact hk);⟨k₁,h1, .head h0 gM h2⟩⟩
 | goto l=>exact hq.elim
 | ret=>exact ⟨_,a₁,w₁,hq, .of_steps (.one h0 gM) harr⟩
 | panic ch=>exact ⟨_,a₁,w₁,hq, .of_steps (.one h0 gM) harr⟩
 | outgrown=>exact ⟨_,a₁,w₁,hq, .of_steps (.one h0 gM) harr⟩
theorem VWx.scope {rd:Option Nat} {ro:Nat} {c:Code} {σ:List TV} {T:VT} {D:List Nat} {Q:KX} (h:VWx P G rd ro c σ T D (FP Q)):VWx P G rd ro (.scope c) σ T D Q:=by
 intro r g w a rw0 hG hσ hd hD hrd
 refine qv (wpIn_mono (h r g w a rw0 hG hσ hd hD hrd) ?_)
 rintro e a' w' ⟨g',σ',T',D',hq,h⟩
 cases e<;>first
  | exact ⟨g',σ',T',D',hq,h⟩
  | exact hq.elim
theorem VWx.loop {rd:Option Nat} {ro:Nat} {c:Code} {σ:List TV} {T:VT} {D:List Nat} {Q:KX} (I:Nat→List TV→VT→List Nat→Prop) (n:Nat) (h0:I n σ T D)
  (round:∀n σ T D,I n σ T D→VWx P G rd ro c σ T D (pI (fun σ' T' D' =>∃n',n' <n∧I n' σ' T' D') Q)):VWx P G rd ro (.loop c) σ T D Q:=by
 intro r g w a rw0 hG hσ hd hD hrd
 refine wpIn_loop_ghost (fun n a' w' =>∃g' σ' T' D',I n σ' T' D' ∧Evo g w g' w' ∧RW g' T' w' ∧VRs g' w' σ' a'.tmps.toList∧a'.defers=D'.map (mk g')∧(∀id∈D',(g'.obj id).isSome=true)∧Fix ro g T w T' w') n ⟨g,σ,T,D,h0,Evo.refl _ _,rw0,hσ,hd,hD,Fix.refl _ _ _ _⟩ ?_
 rintro m a' w' ⟨g',σ',T',D',hI,e1,r',hσ',hd',hD',hx⟩
 refine wpIn_mono (round m σ' T' D' hI r g' w' a' r' (hG.mono e1) hσ' hd' hD' (uU e1 hrd)) ?_
 rintro e a'' w'' ⟨g'',σ'',T'',D'',hq,e2,r2,s2,d2,dd2,x2⟩
 cases e<;>first
  | exact ⟨g'',σ'',T'',D'',hq,e1.trans e2,r2,s2,d2,dd2,hx.trans e1 x2⟩
  | (obtain ⟨n',hn,hI'⟩:=hq;exact ⟨n',hn,g'',σ'',T'',D'',hI',e1.trans e2,r2,s2,d2,dd2,hx.trans e1 x2⟩)
theorem ke {g:Gh} {T:VT} {w:World} (r:RW g T w) {id b:Nat} {st:LoopState} {pend:Option Code} {σ:List TV} {ps:Array Tmp} {asg body:Code} (ho:T.objs[id]?=some (.loop st pend σ ps asg body)) (hb:g.obj id=some b):
  ∃rec:Loop,w.heap[b]?=some (.loop rec)∧rec.state=st∧rec.pending=pend∧rec.params=ps∧rec.assign=asg∧rec.body=body∧VRs g w σ rec.tmps.toList∧
   ∀st' pend',RW g (T.setLoop id st' pend' σ ps asg body) (w.putObj b (.loop {rec with state:=st',pending:=pend' }))∧Evo g w g (w.putObj b (.loop {rec with state:=st',pending:=pend' }))∧
    ∀ro,ro≤id→Fix ro g T w (T.setLoop id st' pend' σ ps asg body) (w.putObj b (.loop {rec with state:=st',pending:=pend' })):=by
 obtain ⟨b',h1,h2,h3,h4⟩:=r.obj id _ ho rfl
 rw [hb] at h1;injection h1 with h1;subst h1
 obtain ⟨us,fn,db,h5,h6⟩:=h2
 have hlt:=(Array.getElem?_eq_some_iff.1 h5).1
 refine ⟨_,h5,rfl,rfl,rfl,rfl,rfl,h6,fun st' pend' => ?_⟩
 have hnew:=World.putObj_heap_same (w:=w) (o:= .loop {state:=st',pending:=pend',fn:=fn,tmps:=us.toArray,params:=ps,assign:=asg,body:=body,defers:=db}) hlt
 have hoth:∀c,c≠b→(w.putObj b (.loop {state:=st',pending:=pend',fn:=fn,tmps:=us.toArray,params:=ps,assign:=asg,body:=body,defers:=db})).heap[c]?=w.heap[c]?:=fun c hc=>World.putObj_heap_other hc
 have key:∀(hE:∀w',w' =w.putObj b (.loop {state:=st',pending:=pend',fn:=fn,tmps:=us.toArray,params:=ps,assign:=asg,body:=body,defers:=db})→Evo g w g w'),RW g (T.setLoop id st' pend' σ ps asg body) (w.putObj b (.loop {state:=st',pending:=pend',fn:=fn,tmps:=us.toArray,params:=ps,assign:=asg,body:=body,defers:=db}))∧Evo g w g (w.putObj b (.loop {state:=st',pending:=pend',fn:=fn,tmps:=us.toArray,params:=ps,assign:=asg,body:=body,defers:=db})):=fun hE=>
  r.setObj (o' := .loop st' pend' σ ps asg body) ho rfl hb ⟨rfl,rfl,rfl⟩ World.putObj_size hoth (by unfold bD;rw [hnew,h5]) fun _=>⟨us,fn,db,hnew,h6.mono (hE _ rfl)⟩
 have hE:=(r.setObj (o' := .gone) ho rfl hb (w' :=w.putObj b (.loop {state:=st',pending:=pend',fn:=fn,tmps:=us.toArray,params:=ps,assign:=asg,body:=body,defers:=db})) ⟨rfl,rfl,rfl⟩ World.putObj_size hoth (by unfold bD;rw [hnew,h5]) fun h=>by cases h).2
 obtain ⟨k1,k2⟩:=key fun w' hw=>by rw [hw];exact hE
 exact ⟨k1,k2,fun ro hr=>iJ r ho rfl hb hr hoth⟩
theorem qT {fn:Func} {ro:Nat} {σ:List TV} {K:TV→VT→Prop} {tmps:Array Value} {g0:Gh} {T0:VT} {w0:World}:∀(D:List Nat) (T T' :VT) (g:Gh) (w:World) (x:TV),oW ro D T=some T' →mM P T' σ fn.results=some x→K x T' →
  RW g T w→VRs g w σ tmps.toList→Evo g0 w0 g w→Fix ro g0 T0 w0 T w→
  LeavesInM (cP none) 0 P fn tmps (fun e w' =>∃v x g' T',e= .returned v∧K x T' ∧Evo g0 w0 g' w' ∧RW g' T' w' ∧VR g' w' x v∧Fix ro g0 T0 w0 T' w') (D.map (mk g)) .returning w
 | [],T,T',g,w,x,h,hr,hk,r,hσ,e,hx=>by
  simp only [oW] at h
  injection h with h;subst h
  obtain ⟨v,h1,h2⟩:=Cb (a:={tmps:=tmps,defers:= []}) r hσ hr
  exact ⟨v,h2,v,x,g,T,rfl,hk,e,r,h1,hx⟩
 | id::D,T,T',g,w,x,h,hr,hk,r,hσ,e,hx=>by
  simp only [oW] at h
  split at h
  ·rename_i ho
   cases hb:Nat.ble ro id with
   | false=>rw [hb] at h;cases h
   | true=>
    rw [hb] at h
    simp only [cond_true] at h
    obtain ⟨b,h1,h2,h3,h4⟩:=r.obj id _ ho rfl
    have hlt:=(Array.getElem?_eq_some_iff.1 h2).1
    have hnew:=World.putObj_heap_same (w:=w) (o:= .deferred none) hlt
    have hoth:∀c,c≠b→(w.putObj b (.deferred none)).heap[c]?=w.heap[c]?:=fun c hc=>World.putObj_heap_other hc
    obtain ⟨k1,k2⟩:=r.setObj (o' := .gone) ho rfl h1 (w' :=w.putObj b (.deferred none)) ⟨rfl,rfl,rfl⟩ World.putObj_size hoth (by unfold bD;rw [hnew,show w.heap[b]?=_ from h2]) fun h=>by cases h
    have k3:Fix ro g T w (T.kill id) (w.putObj b (.deferred none)):=iJ r ho rfl h1 (Nat.le_of_ble_eq_true hb) hoth
    refine ⟨fun h=>(by cases h), .inl ⟨b,w.putObj b (.deferred none),by simp [mk,h1],run_takeDeferred h2, ?_⟩⟩
    exact qT D (T.kill id) T' g _ x h hr hk k1 (hσ.mono k2) (e.trans k2) (hx.trans e k3)
  ·cases h
theorem xT {fn:Func} {ro:Nat} {K:TV→VT→Prop} {σ:List TV} {T:VT} {D:List Nat} (h:u4 P fn ro σ T D K):∃T' x,oW ro D T=some T' ∧mM P T' σ fn.results=some x∧K x T' :=by
 unfold u4 at h
 split at h
 ·rename_i T' hT
  split at h
  ·rename_i x hx;exact ⟨T',x,hT,hx,h⟩
  ·exact h.elim
 ·exact h.elim
theorem VCx.enter {ro:Nat} {f:FuncId} {fn:Func} {c:Code} {xs:List TV} {T:VT} {K:TV→VT→Prop} (hf:P.funcs[f]?=some fn) (hb:fn.body=some c)
    (h:VWx P G none ro c (u5 fn xs) T [] (yU P fn ro K)):VCx P G ro f xs T K:=by
  intro g w us rw0 hG hx
  refine zM (r:=none) (n:=0) (callsIn_of_wp_marks hf hb trivial (wpIn_mono (h none g w _ rw0 hG ?_ rfl (fun _ h=>nomatch h) rfl) ?_))
  · have e1:(us.toArray++Array.replicate (fn.ntmps-us.toArray.size) undef).toList=us++(List.replicate (fn.ntmps-xs.length) undef):=by simp [hx.1]
    rw [e1]
    refine hx.app ?_
    have:=VRs.vals g w (List.replicate (fn.ntmps-xs.length) undef)
    simpa using this
  · rintro e a' w' ⟨g',σ',T',D',hq,e1,r',hσ',hd',hD',hx'⟩
    cases e with
    | normal=>
      obtain ⟨T'',x,h1,h2,h3⟩:=xT (P:=P) hq
      simp only [bodyPostM,hd']
      exact qT D' T' T'' g' w' x h1 h2 h3 r' hσ' e1 hx'
    | ret=>
      obtain ⟨T'',x,h1,h2,h3⟩:=xT (P:=P) hq
      simp only [bodyPostM,hd']
      exact qT D' T' T'' g' w' x h1 h2 h3 r' hσ' e1 hx'
    | exit id=>exact hq.elim
    | goto l=>exact hq.elim
    | panic ch=>exact hq.elim
    | outgrown=>exact hq.elim
def Eo (P:Program) (G:aU) (run:wI):Prop:=∀rd ro c σ T D K,run rd ro c σ T D K→VWx P G rd ro c σ T D K
theorem ve {g:Gh} {w:World}:∀(ps:List Tmp) (xs σ:List TV) (us tmps:List Value),VRs g w xs us→VRs g w σ tmps→VRs g w (mB ps xs σ) ((ps.zip us).foldl (fun t p=>t.set p.1 p.2) tmps)
 | [],xs,σ,us,tmps,hx,hσ=>by simpa [mB] using hσ
 | p::ps, [],σ,us,tmps,hx,hσ=>by
  have:us= []:=List.eq_nil_of_length_eq_zero hx.1
  subst this
  simpa [mB] using hσ
 | p::ps,x::xs,σ, [],tmps,hx,hσ=>by have:=hx.1;simp at this
 | p::ps,x::xs,σ,u::us,tmps,hx,hσ=>by
  simp only [mB,List.zip_cons_cons,List.foldl_cons]
  exact ve ps xs _ us _ ⟨by simpa using hx.1,fun j y v hy hv=>hx.2 (j+1) y v (by simpa using hy) (by simpa using hv)⟩ (hσ.set p (hx.2 0 x u rfl rfl))
theorem Ck (ps:Array Tmp) (us:List Value) (tmps:Array Value):((ps.zip us.toArray).foldl (fun tmps (t,a)=>tmps.setIfInBounds t a) tmps).toList=(ps.toList.zip us).foldl (fun t p=>t.set p.1 p.2) tmps.toList:=by
 rw [←Array.foldl_toList]
 simp only [Array.toList_zip]
 generalize ps.toList.zip us=l
 induction l generalizing tmps with
 | nil=>rfl
 | cons p l ih=>simp only [List.foldl_cons];rw [ih];simp
theorem Ah {ro id:Nat} {st:LoopState} {pend:Option Code} {T:VT} {K:VT→Prop} (h:jR ro id st pend T K):∃st0 pend0 σ ps asg body,T.objs[id]?=some (.loop st0 pend0 σ ps asg body)∧ro≤id∧K (T.setLoop id st pend σ ps asg body):=by
 unfold jR at h
 split at h
 ·rename_i st0 pend0 σ ps asg body ho
  cases hb:Nat.ble ro id with
  | false=>rw [hb] at h;exact h.elim
  | true=>rw [hb] at h;exact ⟨_,_,_,_,_,_,ho,Nat.le_of_ble_eq_true hb,h⟩
 ·exact h.elim
theorem F5 {run:wI} (hrun:Eo P G run):jS P G (qN run):=by
 intro ro id xs T K h g w us rw0 hG hxs
 unfold qN at h
 split at h
 ·rename_i σ ps asg body ho
  cases hb:(Nat.ble ro id&&Nat.beq ps.size xs.length) with
  | false=>rw [hb] at h;exact h.elim
  | true=>
   rw [hb] at h
   simp only [Bool.and_eq_true] at hb
   obtain ⟨hro,hsz⟩:=hb
   have hro:=Nat.le_of_ble_eq_true hro
   have hsz:=Nat.eq_of_beq_eq_true hsz
   simp only [cond_true] at h
   obtain ⟨b,hgb,_⟩:=rw0.obj id _ ho rfl
   obtain ⟨rec,h1,h2,h3,h4,h5,h6,h7,_⟩:=ke rw0 ho hgb
   refine ⟨b,_,_,_,_,hgb,run_yield h1 (by rw [h4];simpa [hxs.1] using hsz.symm), ?_⟩
   rw [h4,h5,h6]
   refine roundIn_of_wpIn (F:=Fence.wide) trivial ?_
   refine wpIn_mono (hrun _ _ _ _ _ _ _ h (some b) g w {tmps:=_,defers:= []} rw0 hG ?_ rfl (fun _ h=>nomatch h) ⟨rfl,hgb⟩) ?_
   ·simp only
    rw [Ck]
    exact ve _ _ _ _ _ hxs h7
   ·rintro e a' w' ⟨g',σ',T',D',hq,e1,r',hσ',hd',hD',hx'⟩
    cases e with
    | normal=>
     simp only at hq
     split at hq
     ·rename_i σ2 ps2 asg2 body2 ho2
      have hgb' :=e1.obj id b hgb
      obtain ⟨rec2,k1,k2,k3,k4,k5,k6,k7,k8⟩:=ke r' ho2 hgb'
      obtain ⟨m1,m2,m3⟩:=k8 .busy none
      have hrec:({rec2 with state:= .busy}:Loop)={rec2 with state:= .busy,pending:=none}:=by
       rw [←k3]
      refine ⟨_,run_beginRound k1 k2, ?_⟩
      rw [hrec]
      refine wpIn_mono (hrun _ _ _ _ _ _ _ hq (some b) g' _ a' m1 ((hG.mono e1).mono m2) (hσ'.mono m2) hd' hD' ⟨rfl,hgb'⟩) ?_
      have fx:=hx'.trans e1 (m3 ro hro)
      rintro e a2 w2 ⟨g2,σ2',T2,D2,hq2,e2,r2,hσ2,hd2,hD2,hx2⟩
      have hgb2:=e2.obj id b hgb'
      have ee:=(e1.trans m2).trans e2
      have ff:=fx.trans (e1.trans m2) hx2
      have fin:∀(st:LoopState) (pend:Option Code) (y:TV) (v:Value) (vd:VR g2 w2 y v),jR ro id st pend T2 (fun T=>K y T)→st=(if pend.isNone then .ready else .done)→v= .bool pend.isNone→
        ∃v' w',(Instr.endRound b pend).run P w2= .ok v' w' ∧∃v x g' T',(Ending.returned v' = .returned v)∧K x T' ∧Evo g w g' w' ∧RW g' T' w' ∧VR g' w' x v∧Fix ro g T w T' w' :=by
       intro st pend y v vd hv hst hvv
       obtain ⟨st0,pend0,σ3,ps3,asg3,body3,n1,n2,n3⟩:=Ah hv
       obtain ⟨rec3,p1,p2,p3,p4,p5,p6,p7,p8⟩:=ke r2 n1 hgb2
       obtain ⟨q1,q2,q3⟩:=p8 st pend
       refine ⟨_,_,run_endRound pend p1,v,y,g2,_,by rw [hvv],n3, ?_⟩
       rw [←hst]
       exact ⟨ee.trans q2,q1,vd.mono q2,ff.trans ee (q3 ro hro)⟩
      cases e with
      | normal=>exact fin .ready none _ _ (.val (.bool true)) hq2 rfl rfl
      | ret=>exact fin .done (some .ret) _ _ (.val (.bool false)) hq2 rfl rfl
      | exit i=>exact fin .done (some (.exit i)) _ _ (.val (.bool false)) hq2 rfl rfl
      | goto l=>exact hq2.elim
      | panic ch=>exact hq2.elim
      | outgrown=>exact hq2.elim
     ·exact hq.elim
    | ret=>exact hq.elim
    | exit i=>exact hq.elim
    | goto l=>exact hq.elim
    | panic ch=>exact hq.elim
    | outgrown=>exact hq.elim
 ·exact h.elim
theorem Ai {ro id:Nat} {σ:List TV} {D:List Nat} {K:KX} {T:VT} (h:im ro id σ D K T):∃st pend σ' ps asg body e,T.objs[id]?=some (.loop st pend σ' ps asg body)∧ro≤id∧K e σ (T.setLoop id .exhausted pend σ' ps asg body) D∧st≠ .busy∧
  ((pend=none∧e= .normal)∨(pend=some .ret∧e= .ret)∨∃x,pend=some (.exit x)∧e= .exit x):=by
 unfold im at h
 split at h
 ·rename_i ho
  cases hb:Nat.ble ro id with
  | false=>rw [hb] at h;exact h.elim
  | true=>rw [hb] at h;exact ⟨_,_,_,_,_,_,_,ho,Nat.le_of_ble_eq_true hb,h,(fun h=>by cases h), .inl ⟨rfl,rfl⟩⟩
 ·rename_i ho
  cases hb:Nat.ble ro id with
  | false=>rw [hb] at h;exact h.elim
  | true=>rw [hb] at h;exact ⟨_,_,_,_,_,_,_,ho,Nat.le_of_ble_eq_true hb,h,(fun h=>by cases h), .inr (.inl ⟨rfl,rfl⟩)⟩
 ·rename_i ho
  cases hb:Nat.ble ro id with
  | false=>rw [hb] at h;exact h.elim
  | true=>rw [hb] at h;exact ⟨_,_,_,_,_,_,_,ho,Nat.le_of_ble_eq_true hb,h,(fun h=>by cases h), .inr (.inr ⟨_,rfl,rfl⟩)⟩
 ·exact h.elim
theorem qU {r:Option Nat} {ro id b:Nat} {σ:List TV} {D:List Nat} {K:KX} {T' :VT} (h:im ro id σ D K T') {g0:Gh} {T0:VT} {w0:World} {g' :Gh} {w' :World} {a' :Act} (r' :RW g' T' w') (hb:g'.obj id=some b) (e1:Evo g0 w0 g' w') (hx:Fix ro g0 T0 w0 T' w')
  (hσ:VRs g' w' σ a'.tmps.toList) (hd:a'.defers=D.map (mk g')) (hD:∀id∈D,(g'.obj id).isSome=true) (v:Value):
  rangePost (cP r) 0 P b (fun e a' w' =>∃g' σ' T' D',K e σ' T' D' ∧Evo g0 w0 g' w' ∧RW g' T' w' ∧VRs g' w' σ' a'.tmps.toList∧a'.defers=D'.map (mk g')∧(∀id∈D',(g'.obj id).isSome=true)∧Fix ro g0 T0 w0 T' w') a' (.returned v) w' :=by
 obtain ⟨st,pend,σ',ps,asg,body,e,n1,n2,n3,n4,n5⟩:=Ai h
 obtain ⟨rec3,p1,p2,p3,p4,p5,p6,p7,p8⟩:=ke r' n1 hb
 obtain ⟨q1,q2,q3⟩:=p8 .exhausted pend
 have hrec:({rec3 with state:= .exhausted}:Loop)={rec3 with state:= .exhausted,pending:=pend}:=by rw [←p3]
 refine ⟨_,_,run_endLoop p1 (by rw [p2];exact n4), ?_⟩
 rw [hrec,p3]
 have fin:∃g'' σ'' T'' D'',K e σ'' T'' D'' ∧Evo g0 w0 g'' (w'.putObj b (.loop {rec3 with state:= .exhausted,pending:=pend}))∧RW g'' T'' (w'.putObj b (.loop {rec3 with state:= .exhausted,pending:=pend}))∧VRs g'' (w'.putObj b (.loop {rec3 with state:= .exhausted,pending:=pend})) σ'' a'.tmps.toList∧a'.defers=D''.map (mk g'')∧(∀id∈D'',(g''.obj id).isSome=true)∧Fix ro g0 T0 w0 T'' (w'.putObj b (.loop {rec3 with state:= .exhausted,pending:=pend})):=
  ⟨g',σ,_,D,n3,e1.trans q2,q1,hσ.mono q2,hd,hD,hx.trans e1 (q3 ro n2)⟩
 rcases n5 with ⟨rfl,rfl⟩ | ⟨rfl,rfl⟩ | ⟨x,rfl,rfl⟩
 ·exact fin
 ·exact wpIn_ret fin
 ·exact wpIn_exit fin
theorem Aj {α:Type} (l m:List α):(l++m).take l.length=l:=by simp
theorem CF (us vs:List Value) (y:Value):(us.toArray++ #[y])++vs.toArray=(us++ [y]++vs).toArray:=by simp
theorem th {a:Act} {f:Operand} {l:Nat} {fi:FuncId} {us vs:List Value} (h:a.eval f= .func (.func fi) us.toArray vs.toArray) (w:World):
  (resolve a.eval (rangeCall f l) 0).run P w= .ok {target:= .fn (.func fi) vs.toArray,args:=us.toArray++ #[.func (.yield l) #[] #[]]} w:=by
 have hc:a.eval (.const (.func (.yield l) #[] #[]))= .func (.yield l) #[] #[]:=rfl
 simp [resolve,h,hc,Deferred.ofValue]
theorem vg {fi:FuncId} {fn:Func} {args vs:Array Value} (hfn:P.funcs[fi]?=some fn) (hb:fn.body.isSome=true) (hnm:(fn.name== "runtime.NumGoroutine")=false) (w:World):
  (invoke (.fn (.func fi) vs) args).run P w= .ok (.enter fi (args++vs)) w:=by
 have hb' :fn.body≠none:=by intro h;rw [h] at hb;cases hb
 have hnm' :fn.name≠ "runtime.NumGoroutine" :=by simpa using hnm
 simp [invoke,callFunc,hfn,hnm',hb']
theorem VWx.range0 {ro:Nat} {f:Operand} {ps:Array Tmp} {asg body:Code} {σ:List TV} {T:VT} {D:List Nat} {K:KX} {fi:FuncId} {fn:Func} {first ca:List TV} (hf:be G σ f= .fn (.func fi) first ca)
  (hfn:P.funcs[fi]?=some fn) (hb:fn.body.isSome=true) (hnm:(fn.name== "runtime.NumGoroutine")=false)
  (hc:VCx P G ro fi (first++ [.yld (T.objs.length+1)]++ca) {T with objs:=T.objs++ [.defd]++ [.loop .ready none σ ps asg body]} fun _ T' =>im ro (T.objs.length+1) σ (T.objs.length::D) K T'):
  VWx P G none ro (.rangeFunc f ps asg body) σ T D K:=by
 intro r g w a rw0 hG hσ hd hD hrd
 have hrd:r=none:=hrd
 subst hrd
 have hv:=dZ hG hσ f
 rw [hf] at hv
 obtain ⟨us,vs,h2,h3,h4⟩:=hv.fn_inv
 refine wpIn_rangeFunc fun fd _=> ?_
 obtain ⟨g1,r1,e1,ho1,_⟩:=rw0.new (.deferred (some [])) (o:= .defd) rfl (World.alloc_heap_new _ _)
 have hE:=Evo.of_gr r1 ((Gr.refl (w.alloc (.deferred (some [])))).alloc (.loop {state:= .ready,pending:=none,fn:=fd,tmps:=a.tmps,params:=ps,assign:=asg,body:=body,defers:=w.heap.size}))
 obtain ⟨g2,r2,e2,ho2,_⟩:=r1.new (.loop {state:= .ready,pending:=none,fn:=fd,tmps:=a.tmps,params:=ps,assign:=asg,body:=body,defers:=w.heap.size}) (o:= .loop .ready none σ ps asg body) rfl
  ⟨a.tmps.toList,fd,w.heap.size,World.alloc_heap_new _ _,hσ.mono (e1.trans hE)⟩
 have ee:=e1.trans e2
 have hl:(w.alloc (.deferred (some []))).heap.size=w.heap.size+1:=World.size_alloc ..
 have hl2:({T with objs:=T.objs++ [.defd]}:VT).objs.length=T.objs.length+1:=by simp
 rw [hl,hl2] at ho2
 have ho1' :=e2.obj _ _ ho1
 have f1:Fix ro g T w {T with objs:=T.objs++ [.defd]++ [.loop .ready none σ ps asg body]} ((w.alloc (.deferred (some []))).alloc (.loop {state:= .ready,pending:=none,fn:=fd,tmps:=a.tmps,params:=ps,assign:=asg,body:=body,defers:=w.heap.size})):=
  Fix.of_same (Same.of_gr rw0 (((Gr.refl w).alloc _).alloc _)) (by simp only [List.append_assoc];exact Aj _ _)
 refine ⟨w.heap.size+1, [{target:= .collected w.heap.size,args:= #[]}],_,_,_,fi,_,_,run_enterLoop_outer fd a.tmps ps asg body,th h2 _,fun _ _=>trivial,vg hfn hb hnm _,fun h=>(by cases h), ?_⟩
 have hargs:VRs g2 _ (first++ [.yld (T.objs.length+1)]++ca) (us++ [.func (.yield (w.heap.size+1)) #[] #[]]++vs):=((h3.mono ee).app (VRs.cons (.yld ho2) (VRs.nil _ _))).app (h4.mono ee)
 have hcall:=hc g2 _ _ r2 (hG.mono ee) hargs
 have ha:(us.toArray++ #[Value.func (.yield (w.heap.size+1)) #[] #[]])++vs.toArray=(us++ [Value.func (.yield (w.heap.size+1)) #[] #[]]++vs).toArray:=CF us vs _
 rw [ha]
 refine ox (Calls.mono hcall ?_)
 rintro e w' ⟨v,x,g',T',rfl,hq,e3,r',hv,hx⟩
 have eE:=ee.trans e3
 refine qU (a' :={tmps:=a.tmps,defers:= [{target:= .collected w.heap.size,args:= #[]}]++a.defers}) hq r' (e3.obj _ _ ho2) eE (f1.trans ee hx) (hσ.mono eE) ?_ ?_ v
 ·show [_]++a.defers=_
  rw [hd,List.map_cons,lx eE hD]
  simp [mk,e3.obj _ _ ho1']
 ·intro id hid
  rcases List.mem_cons.1 hid with rfl | hid
  ·rw [e3.obj _ _ ho1'];rfl
  ·exact fk eE hD id hid
theorem VWx.range1 {i0 ro:Nat} {f:Operand} {ps:Array Tmp} {asg body:Code} {σ:List TV} {T:VT} {D:List Nat} {K:KX} {fi:FuncId} {fn:Func} {first ca:List TV} {st0:LoopState} {pend0:Option Code} {σ0:List TV} {ps0:Array Tmp} {asg0 body0:Code}
  (hf:be G σ f= .fn (.func fi) first ca) (hlp:T.objs[i0]?=some (.loop st0 pend0 σ0 ps0 asg0 body0))
  (hfn:P.funcs[fi]?=some fn) (hb:fn.body.isSome=true) (hnm:(fn.name== "runtime.NumGoroutine")=false)
  (hc:VCx P G ro fi (first++ [.yld T.objs.length]++ca) {T with objs:=T.objs++ [.loop .ready none σ ps asg body]} fun _ T' =>im ro T.objs.length σ D K T'):
  VWx P G (some i0) ro (.rangeFunc f ps asg body) σ T D K:=by
 intro r g w a rw0 hG hσ hd hD hrd
 obtain ⟨hr1,hr2⟩:=hrd
 obtain ⟨b0,rfl⟩:=Option.isSome_iff_exists.1 hr1
 obtain ⟨rec0,k1,_⟩:=ke rw0 hlp hr2
 have hv:=dZ hG hσ f
 rw [hf] at hv
 obtain ⟨us,vs,h2,h3,h4⟩:=hv.fn_inv
 refine wpIn_rangeFunc fun fd _=> ?_
 have hE:=Evo.of_gr rw0 ((Gr.refl w).alloc (.loop {state:= .ready,pending:=none,fn:=fd,tmps:=a.tmps,params:=ps,assign:=asg,body:=body,defers:=rec0.defers}))
 obtain ⟨g2,r2,ee,ho2,_⟩:=rw0.new (.loop {state:= .ready,pending:=none,fn:=fd,tmps:=a.tmps,params:=ps,assign:=asg,body:=body,defers:=rec0.defers}) (o:= .loop .ready none σ ps asg body) rfl
  ⟨a.tmps.toList,fd,rec0.defers,World.alloc_heap_new _ _,hσ.mono hE⟩
 have f1:Fix ro g T w {T with objs:=T.objs++ [.loop .ready none σ ps asg body]} (w.alloc (.loop {state:= .ready,pending:=none,fn:=fd,tmps:=a.tmps,params:=ps,assign:=asg,body:=body,defers:=rec0.defers})):=
  Fix.of_same (Same.of_gr rw0 ((Gr.refl w).alloc _)) (Aj _ _)
 refine ⟨w.heap.size, [],_,_,_,fi,_,_,run_enterLoop_inner k1 fd a.tmps ps asg body,th h2 _,fun _ _=>trivial,vg hfn hb hnm _,fun h=>(by cases h), ?_⟩
 have hargs:VRs g2 _ (first++ [.yld T.objs.length]++ca) (us++ [.func (.yield w.heap.size) #[] #[]]++vs):=((h3.mono ee).app (VRs.cons (.yld ho2) (VRs.nil _ _))).app (h4.mono ee)
 have hcall:=hc g2 _ _ r2 (hG.mono ee) hargs
 have ha:(us.toArray++ #[Value.func (.yield w.heap.size) #[] #[]])++vs.toArray=(us++ [Value.func (.yield w.heap.size) #[] #[]]++vs).toArray:=CF us vs _
 rw [ha]
 refine ox (Calls.mono hcall ?_)
 rintro e w' ⟨v,x,g',T',rfl,hq,e3,r',hv,hx⟩
 have eE:=ee.trans e3
 refine qU (a' :={tmps:=a.tmps,defers:= []++a.defers}) hq r' (e3.obj _ _ ho2) eE (f1.trans ee hx) (hσ.mono eE) ?_ (fk eE hD) v
 show []++a.defers=_
 rw [hd,lx eE hD];rfl
def aZ (P:Program) (G:aU) (C:FuncId→Option aV):Prop:=∀f W,C f=some W→∀ro xs T K,W ro xs T K→VCx P G ro f xs T K
def fG (P:Program):Bool:=P.funcs.toList.all fun fn=> !fn.body.isSome || !(fn.name== "runtime.NumGoroutine")
theorem F6 {C:FuncId→Option aV} (hB:fG P=true) (hC:aZ P G C) {run:wI} (hrun:Eo P G run):io P G (kO P C run):=by
 intro ro f xs T K h
 unfold kO at h
 split at h
 ·rename_i fn hf
  split at h
  ·rename_i c hc
   have hnm:(fn.name== "runtime.NumGoroutine")=false:=by
    have hmem:fn∈P.funcs.toList:=by
     obtain ⟨hlt,he⟩:=Array.getElem?_eq_some_iff.1 hf
     rw [←he];exact Array.mem_toList_iff.2 (Array.getElem_mem hlt)
    have:=List.all_eq_true.1 hB fn hmem
    simpa [hc] using this
   refine ⟨fn,hf,by rw [hc];rfl,hnm, ?_⟩
   split at h
   ·rename_i W hW
    exact hC f W hW ro xs T K h
   ·exact VCx.enter hf hc (hrun _ _ _ _ _ _ _ h)
  ·exact h.elim
 ·exact h.elim
def dD (P:Program) (G:aU) (L:Nat→Option (b6 × Code)):Prop:=∀id W c,L id=some (W,c)→∀rd ro σ T D K,W rd ro σ T D K→VWx P G rd ro c σ T D K
theorem ah:dD P G fun _=>none:=fun _ _ _ h=>by cases h
theorem vh {C:FuncId→Option aV} (hm:P.follows .mixedOrders=true) (hB:fG P=true) (hC:aZ P G C):
  ∀n m,m≤n→∀F L,dD P G L→Eo P G (vx P G C F m L)
 | _,0,_,_,_,_,_,_,_,_,_,_,_,h=>by simp only [vx] at h;exact h.elim
 | 0,m+1,hle,_,_,_,_,_,_,_,_,_,_,_=>by omega
 | n+1,m+1,hle,F,L,hL,rd,ro,c,σ,T,D,K,h=>by
  have ih:=fun m hm0=>vh hm hB hC n m hm0 F L hL
  have ih0:=fun m hm0=>vh hm hB hC n m hm0 aT (fun _=>none) ah
  have hcal:io P G (kO P C (vx P G C aT m fun _=>none)):=F6 hB hC (ih0 m (by omega))
  have hrnd:jS P G (qN (vx P G C aT m fun _=>none)):=F5 (ih0 m (by omega))
  unfold vx at h
  cases c with
  | skip=>exact VWx.here (e:= .normal) h fun F a w R hr=>wpIn_skip hr
  | exit id=>exact VWx.here (e:= .exit id) h fun F a w R hr=>wpIn_exit hr
  | ret=>exact VWx.here (e:= .ret) h fun F a w R hr=>wpIn_ret hr
  | seq a b=>
   refine VWx.seq ((ih m (by omega) _ _ _ _ _ _ _ h).mono fun e σ T D hq=> ?_)
   cases e<;>first
    | exact ih m (by omega) _ _ _ _ _ _ _ hq
    | exact hq
  | cond c x y=>
   simp only at h
   split at h
   ·rename_i b hb
    refine VWx.cond hb (fun hbt=> ?_) (fun hbf=> ?_)
    ·subst hbt;exact ih m (by omega) _ _ _ _ _ _ _ h
    ·subst hbf;exact ih m (by omega) _ _ _ _ _ _ _ h
   ·exact h.elim
  | block id c=>
   simp only at h
   split at h
   ·rename_i W c' hW
    obtain ⟨rfl,h⟩:=h
    exact hL _ _ _ hW rd ro σ T D K h
   ·exact VWx.block (ih m (by omega) _ _ _ _ _ _ _ h)
  | scope c=>exact VWx.scope (ih m (by omega) _ _ _ _ _ _ _ h)
  | loop c=>
   refine VWx.loop (fun k σ T D=>k≤m+1∧vx P G C F k L rd ro (.loop c) σ T D K) (m+1) ⟨Nat.le_refl _,by unfold vx;exact h⟩ ?_
   rintro k σ T D ⟨hk,h⟩
   cases k with
   | zero=>simp only [vx] at h;exact h.elim
   | succ j=>
    unfold vx at h
    refine (ih j (by omega) _ _ _ _ _ _ _ h).mono fun e σ T D hq=> ?_
    cases e<;>first
     | exact ⟨j,by omega,by omega,hq⟩
     | exact hq
  | region id ops d=>
   simp only at h
   split at h
   ·rename_i W c' hW
    obtain ⟨rfl,h⟩:=h
    exact hL _ _ _ hW rd ro σ T D K h
   ·cases d with
    | false=>exact Ed (Q:=K) hcal hrnd h
    | true=>exact IV (Q:=K) hcal hrnd hm h
  | rangeFunc f ps a b=>
   simp only at h
   split at h
   ·rename_i fi first ca hf
    cases rd with
    | none=>
     obtain ⟨fn,h1,h2,h3,h4⟩:=hcal _ _ _ _ _ h
     exact VWx.range0 hf h1 h2 h3 h4
    | some i0=>
     simp only at h
     split at h
     ·rename_i hlp
      obtain ⟨fn,h1,h2,h3,h4⟩:=hcal _ _ _ _ _ h
      exact VWx.range1 hf hlp h1 h2 h3 h4
     ·exact h.elim
   ·exact h.elim
  | label l=>exact VWx.here (e:= .normal) h fun F a w R hr=>wpIn_label hr
  | goto l=>exact h.elim
  | refuse why=>exact h.elim
theorem xU {C:FuncId→Option aV} (hm:P.follows .mixedOrders=true) (hB:fG P=true) (hC:aZ P G C) {F:iW} {n:Nat} {L:Nat→Option (b6 × Code)} (hL:dD P G L) {ro:Nat} {f:FuncId} {xs:List TV} {T:VT} {K:TV→VT→Prop}
  (h:au P G C F n L ro f xs T K):VCx P G ro f xs T K:=by
 unfold au at h
 split at h
 ·rename_i fn hf
  split at h
  ·rename_i c hc
   exact VCx.enter hf hc (vh hm hB hC n n (Nat.le_refl _) _ _ hL _ _ _ _ _ _ _ h)
  ·exact h.elim
 ·exact h.elim
theorem IW {C:FuncId→Option aV} (hm:P.follows .mixedOrders=true) (hB:fG P=true) (hC:aZ P G C) {n:Nat} {L:Nat→Option (b6 × Code)} (hL:dD P G L) {ro:Nat} {f:FuncId} {xs:List TV} {T:VT} {K:TV→VT→Prop}
  (h:KI P G C n L ro f xs T K):VCx P G ro f xs T K:=xU hm hB hC hL (F:=aT) h
theorem an:aZ P G fun _=>none:=fun _ _ h=>by cases h
end
end
section
open Go.RowKit

section
variable {P:Program} {G:aU}
def en (id:Nat):Code→Option Code
 | .block i c=>bif Nat.beq i id then some (.block i c) else en id c
 | .seq a b=>match en id a with
  | some c=>some c
  | none=>en id b
 | .cond _ a b=>match en id a with
  | some c=>some c
  | none=>en id b
 | .loop c=>en id c
 | .scope c=>en id c
 | .rangeFunc _ _ a b=>match en id a with
  | some c=>some c
  | none=>en id b
 | _=>none
def F7 (P:Program) (f:FuncId):Code:=match P.funcs[f]? with
 | some fn=>fn.body.getD .skip
 | none=> .skip
def aH (P:Program) (f:FuncId) (id:Nat):Code:=(en id (F7 P f)).getD .skip
def vi:Code→Code
 | .block _ (.loop c)=>c
 | _=> .skip
def cI (P:Program) (f:FuncId) (id:Nat):Code:=vi (aH P f id)
def jk (id:Nat):Code→Bool
 | .block i (.loop _)=>Nat.beq i id
 | _=>false
theorem wL {id:Nat} {c:Code} (h:jk id c=true):c= .block id (.loop (vi c)):=by
 unfold jk at h
 split at h
 ·rw [Nat.eq_of_beq_eq_true h];rfl
 ·cases h

def LEs:List TV→List (Option TV)→Prop
 | [], []=>True
 | _::l,none::m=>LEs l m
 | x::l,some y::m=>x=y∧LEs l m
 | _,_=>False
def pM (m:List (Option TV)):List TV:=m.map fun o=>o.getD .dead
theorem LEs.ok {g:Gh} {w:World}:∀{σ:List TV} {m:List (Option TV)} {us:List Value},LEs σ m→VRs g w σ us→VRs g w (pM m) us
 | [], [],us,_,h=>h
 | x::l,none::m,us,k,h=>by
  match us,h with
  | [],h=>have:=h.1;simp at this
  | u::us,h=>
   have h1:VRs g w l us:=⟨by have:=h.1;simpa using this,fun j y v hy hv=>h.2 (j+1) y v (by simpa using hy) (by simpa using hv)⟩
   exact VRs.cons (.dead u) (LEs.ok (show LEs l m from k) h1)
 | x::l,some y::m,us,k,h=>by
  obtain ⟨rfl,k⟩:=k
  match us,h with
  | [],h=>have:=h.1;simp at this
  | u::us,h=>
   have h1:VRs g w l us:=⟨by have:=h.1;simpa using this,fun j y v hy hv=>h.2 (j+1) y v (by simpa using hy) (by simpa using hv)⟩
   exact VRs.cons (h.2 0 x u rfl rfl) (LEs.ok k h1)
 | [],_::_,_,k,_=>k.elim
 | x::l, [],_,k,_=>k.elim
theorem VWx.sub {rd:Option Nat} {ro:Nat} {c:Code} {σ σ' :List TV} {T:VT} {D:List Nat} {Q:KX} (h:VWx P G rd ro c σ' T D Q) (hs:∀g w us,VRs g w σ us→VRs g w σ' us):VWx P G rd ro c σ T D Q:=
 fun r g w a rw0 hG hσ=>h r g w a rw0 hG (hs _ _ _ hσ)

def F8 {ι:Type} (μ:ι→Nat) (sl:ι→List (Option TV)) (tt:ι→VT) (Inv:ι→Prop) (N M:Nat) (s:ι) (σ:List TV) (T:VT):Prop:=
 ∃s',Inv s' ∧μ s' <μ s∧((T=tt s' ∧LEs σ (sl s'))∨(T.keep N M=tt s' ∧LEs (ar (aw N) (aw M) σ) (sl s')))
theorem VWx.loopS {ι:Type} {rd:Option Nat} {c:Code} {D:List Nat} {Q:KX} (μ:ι→Nat) (sl:ι→List (Option TV)) (tt:ι→VT) (Inv:ι→Prop) (N M:Nat) (hN:∀s,Inv s→(tt s).objs.length≤N∧(tt s).tails.length≤M) (hD:∀id∈D,id<N)
    (hbody:∀s,Inv s→VWx P G rd 0 c (pM (sl s)) (tt s) D (pI (fun σ T D' =>D' =D∧F8 μ sl tt Inv N M s σ T) Q)):
    ∀s,Inv s→VWx P G rd 0 (.loop c) (pM (sl s)) (tt s) D Q:=by
  intro s0 hs0
  refine VWx.loop (fun n σ T D' =>∃s,Inv s∧μ s=n∧σ=pM (sl s)∧T=tt s∧D' =D) (μ s0) ⟨s0,hs0,rfl,rfl,rfl,rfl⟩ ?_
  rintro n σ T D' ⟨s,hs,rfl,rfl,rfl,rfl⟩
  intro r g w a rw0 hG hσ hd hDs hrd
  refine wpIn_mono (hbody s hs r g w a rw0 hG hσ hd hDs hrd) ?_
  rintro e a' w' ⟨g',σ',T',D'',hq,e',r',hσ',hd',hDs',hx⟩
  cases e<;>first
    | exact ⟨g',σ',T',D'',hq,e',r',hσ',hd',hDs',hx⟩
    | (obtain ⟨rfl,s',hs',hlt,⟨rfl,hle⟩ | ⟨hT,hle⟩⟩:=hq
       · exact ⟨g',_,_,_,⟨_,hlt,s',hs',rfl,rfl,rfl,rfl⟩,e',r',hle.ok hσ',hd',hDs',hx⟩
       · have hdk:∀id∈D'',(g'.keep N M).obj id=g'.obj id:=fun id hid=>by simp [Gh.keep,hD id hid]
         refine ⟨g'.keep N M,_,tt s',D'',⟨_,hlt,s',hs',rfl,rfl,rfl,rfl⟩,e'.keep rw0 (hN s hs).1 (hN s hs).2,hT▸r'.keep N M,hle.ok (hσ'.ren (tO g' N M)), ?_, ?_, ?_⟩
         · rw [hd']
           apply List.map_congr_left
           intro id hid
           simp only [mk,hdk id hid]
         · intro id hid
           rw [hdk id hid];exact hDs' id hid
         · refine ⟨?_,fun i hi=>absurd hi (Nat.not_lt_zero i),fun i o b hi=>absurd hi (Nat.not_lt_zero i)⟩
           rw [←hT]
           simp only [VT.keep,List.length_map,List.length_take]
           have h1:=hx.len
           have h2:=(hN s hs).1
           omega)
theorem VWx.blockS {ι:Type} {rd:Option Nat} {f:FuncId} {id:Nat} {D:List Nat} {Q:KX} (hc:jk id (aH P f id)=true) (μ:ι→Nat) (sl:ι→List (Option TV)) (tt:ι→VT) (Inv:ι→Prop) (N M:Nat) (hN:∀s,Inv s→(tt s).objs.length≤N∧(tt s).tails.length≤M) (hD:∀id∈D,id<N)
  (hbody:∀s,Inv s→VWx P G rd 0 (cI P f id) (pM (sl s)) (tt s) D (pI (fun σ T D' =>D' =D∧F8 μ sl tt Inv N M s σ T) (qM id Q))):
  ∀s,Inv s→VWx P G rd 0 (aH P f id) (pM (sl s)) (tt s) D Q:=by
 intro s hs
 rw [wL hc]
 exact VWx.block (VWx.loopS μ sl tt Inv N M hN hD hbody s hs)
def dl (G:aU):Prop:=∀n cs,G n=some cs→∃vs:List Value,cs=vs.map .val
theorem GOk.sub {g g' :Gh} {w:World} {f h:Nat→Option Nat} (hv:dl G) (k:GOk G g w) (r:qA g g' f h):GOk G g' w:=fun n cs hn=>by
 obtain ⟨vs,rfl⟩:=hv n cs hn
 have h1:=(k n _ hn).ren r
 simp only [TV.ren,qz] at h1
 exact h1
theorem VCx.lift {ro:Nat} {f:FuncId} {xs ys:List TV} {T:VT} {Q:TV→VT→Prop} (is ks:List Nat) (hv:dl G) (hi:is.Nodup) (hk:ks.Nodup) (hil:∀i∈is,∃o,T.objs[i]?=some o∧o.live=true) (hkl:∀k∈ks,k<T.tails.length) (hro:∀i∈is,ro≤i)
  (hx:ar (bb is) (bb ks) ys=xs) (h:VCx P G 0 f xs (T.give is ks) Q) (hlen:∀x T',Q x T' →is.length≤T'.objs.length∧ks.length≤T'.tails.length):
  VCx P G ro f ys T fun y T'' =>∃x T',Q x T' ∧y=x.ren (bf T.objs.length is) (bf T.tails.length ks)∧T'' =T.back is ks T' :=by
 intro g w us rw0 hG hxs
 have hargs:=hxs.ren (wv g T is ks)
 rw [hx] at hargs
 have hil' :∀i∈is,i<T.objs.length:=fun i h=>by obtain ⟨o,h1,_⟩:=hil i h;exact (List.getElem?_eq_some_iff.1 h1).1
 have r1:=rw0.give hi hk hil' hkl
 refine Calls.mono (h _ w _ r1 (hG.sub hv (wv g T is ks)) hargs) ?_
 rintro e w' ⟨v,x,gc,T',rfl,hq,e',r',hv',_⟩
 obtain ⟨l1,l2⟩:=hlen x T' hq
 obtain ⟨g',ev,rb,rn⟩:=Fv rw0 hi hk hil hkl e' r' l1 l2
 obtain ⟨b1,b2,b3,b4⟩:=lm is T.objs (T'.objs.map (VO.ren (bf T.objs.length is) (bf T.tails.length ks))) hi hil' (by simpa using l1)
 refine ⟨v,_,g',_,rfl,⟨x,T',hq,rfl,rfl⟩,ev,rb,hv'.ren rn, ?_, ?_, ?_⟩
 ·show T.objs.length≤(cu T.objs is _).length
  rw [b1];omega
 ·intro i hir hil2
  exact b2 i hil2 fun hm=>absurd (hro i hm) (by omega)
 ·intro i o b hir ho hl hb
  have hnm:i∉is:=fun hm=>absurd (hro i hm) (by omega)
  exact e'.frb b (.inr (.inl ⟨i,o,ho,hl,hnm,hb⟩))
theorem VCx.liftPure {ro:Nat} {f:FuncId} {xs ys:List TV} {T:VT} {y:TV} {K:TV→VT→Prop} (hv:dl G) (h:VCx P G 0 f xs ⟨[], []⟩ fun x T' =>x=y∧T' =⟨[], []⟩) (hx:ar (bb []) (bb []) ys=xs) (hy:∀f h,y.ren f h=y) (k:K y T):VCx P G ro f ys T K:=by
 refine (VCx.lift (T:=T) [] [] hv List.nodup_nil List.nodup_nil (by simp) (by simp) (by simp) hx (by rw [VT.give_nil];exact h) (fun _ _ _=>⟨Nat.zero_le _,Nat.zero_le _⟩)).mono ?_
 rintro z T' ⟨x,T'',⟨rfl,rfl⟩,rfl,rfl⟩
 have hb:T.back [] [] ⟨[], []⟩=T:=by rw [VT.back_nil];cases T;simp
 rw [hy,hb];exact k
def aC:List (FuncId × aV)→FuncId→Option aV
 | [],_=>none
 | (f,W)::l,g=>bif Nat.beq f g then some W else aC l g
theorem aJ:∀{l:List (FuncId × aV)},(∀p∈l,∀ro xs T K,p.2 ro xs T K→VCx P G ro p.1 xs T K)→aZ P G (aC l)
 | [],_=>fun _ _ h=>by cases h
 | (f,W)::l,h=>fun g W' hW=>by
  simp only [aC] at hW
  cases hb:Nat.beq f g with
  | true=>
   rw [hb] at hW
   injection hW with hW;subst hW
   have:=Nat.eq_of_beq_eq_true hb
   subst this
   exact h _ List.mem_cons_self
  | false=>
   rw [hb] at hW
   exact aJ (fun p hp=>h p (List.mem_cons_of_mem _ hp)) g W' hW
theorem am {b:Bool} {X Y:Prop} (ht:b=true→X) (hf:b=false→Y):cond b X Y:=by
 cases b
 ·exact hf rfl
 ·exact ht rfl
theorem VCx.keepQ {f:FuncId} {xs:List TV} {T:VT} {Q:TV→VT→Prop} (n m:Nat) (hn:T.objs.length≤n) (hm:T.tails.length≤m) (h:VCx P G 0 f xs T fun x T' =>Q (x.ren (aw n) (aw m)) (T'.keep n m)):VCx P G 0 f xs T Q:=by
 intro g w us rw0 hG hx
 refine Calls.mono (h g w us rw0 hG hx) ?_
 rintro e w' ⟨v,x,g',T',he,hq,e',r',hv,hfx⟩
 refine ⟨v,_,g'.keep n m,T'.keep n m,he,hq,e'.keep rw0 hn hm,r'.keep n m,hv.ren (tO g' n m), ?_,fun i hi=>absurd hi (Nat.not_lt_zero i),fun i o b hi=>absurd hi (Nat.not_lt_zero i)⟩
 simp only [VT.keep,List.length_map,List.length_take]
 have h1:=hfx.len
 omega
end
end
section
open Go.RowKit

end
section
open Go.RowKit

section
variable {P:Program}

def Mh:TV→Bool
 | .val _ | .ptr .. | .sl .. | .map _ | .dead=>true
 | _=>false
def pO (x:TV):TV:=if Mh x then x else .dead
def Ak (size k e:Nat) (n:Nat) (es' :List (List TV)) (σ:List TV):List TV:=σ.map fun x=>match x with
 | .vec s es (.tail k' e')=>if s=size∧k' =k∧e' =e∧es.length=n then .vec size es' .none else .dead
 | x=>pO x
theorem xV {g:Gh} {w:World}:∀{xs:List TV} {us us' :List Value},xs.map df=us.map some→VRs g w xs us' →us' =us
 | [], [],us',_,k=>List.eq_nil_of_length_eq_zero k.1
 | [],_::_,_,h,_=>by simp at h
 | _::_, [],_,h,_=>by simp at h
 | x::xs,u::us,us',h,k=>by
  simp only [List.map_cons,List.cons.injEq] at h
  cases us' with
  | nil=>have:=k.1;simp at this
  | cons u' us' =>
   have h1:=dg h.1 (k.2 0 x u' rfl rfl)
   have h2:=xV (us' :=us') h.2 ⟨by have:=k.1;simpa using this,fun j x u hx hu=>k.2 (j+1) x u (by simpa using hx) (by simpa using hu)⟩
   rw [h1,h2]
end
end
section
open Go.ChangeShapes Go.WideShapes Go.ChangeAt Go.RowKit Go.Joins Go.Deep

def kf (w:World):Gh:=⟨fun _=>none,fun b o=>(w.cell? ⟨b,o,none⟩).isSome=true,fun b=>b<w.heap.size,fun _=>none⟩
theorem OC (w:World):RW (kf w) ⟨[], []⟩ w:=by
 refine ⟨(fun id o h=>by simp at h),(fun i j oi oj b h=>by simp at h),(fun _ _=>rfl),(fun _ _ h=>h),(fun _ h=>h),(fun k p h=>by simp at h),(fun _ _=>rfl),(fun i j x y b h=>nomatch h),(fun i oi b k x h=>by simp at h),(fun k x h=>nomatch h),(fun k x h=>nomatch h),(fun k x h=>nomatch h)⟩
section
variable {H:Type} {enc:TypeId × Value→H} {P:Program} {w:World} {base:Nat} {spare:Nat→Bool} {held:Bool}
end
end
section
open Go.ChangeShapes Go.WideShapes Go.ChangeAt Go.RowKit Go.Joins Go.Deep

def gN (x:TV) (_:VT):Prop:=match x with
 | .val (.bool b)=>cond b True False
 | _=>False
theorem VCx.topK {P:Program} {G:aU} {ro:Nat} {f:FuncId} {xs:List TV} {us:List Value} (h:VCx P G ro f xs ⟨[], []⟩ gN) (w:World) (hG:GOk G (kf w) w) (hx:VRs (kf w) w xs us):
  Calls P f us.toArray w fun e w' =>e= .returned (.bool true)∧Gr w w' :=by
 refine (h (kf w) w us (OC w) hG hx).mono ?_
 rintro e w' ⟨u,x,g',T',rfl,hq,ev,_,hv,_⟩
 unfold gN at hq
 split at hq
 ·rename_i b
  cases b with
  | false=>exact hq.elim
  | true=>
   rw [hv.val_inv]
   exact ⟨rfl,ev.os,ev.tape,ev.output,ev.size,fun b hb=>ev.frb b hb⟩
 ·exact hq.elim
theorem VCx.trueOnly {P:Program} {G:aU} {f:FuncId} {xs:List TV} (h:VCx P G 0 f xs ⟨[], []⟩ gN):VCx P G 0 f xs ⟨[], []⟩ fun x T' =>x= .val (.bool true)∧T' =⟨[], []⟩:=by
 refine VCx.keepQ 0 0 (Nat.le_refl _) (Nat.le_refl _) (h.mono fun x T' hx=> ?_)
 unfold gN at hx
 split at hx
 ·rename_i b
  cases b with
  | false=>exact hx.elim
  | true=>exact ⟨rfl,by simp [VT.keep]⟩
 ·exact hx.elim
def Ep:aV:=fun _ ys T K=>match ys with
 | []=>K (.val (.bool true)) T
 | _::_=>False
theorem IX {P:Program} {G:aU} (hv:dl G) {f:FuncId} (h:VCx P G 0 f [] ⟨[], []⟩ gN):∀ro ys T K,Ep ro ys T K→VCx P G ro f ys T K:=by
 intro ro ys T K hk
 unfold Ep at hk
 split at hk
 ·exact VCx.liftPure hv h.trueOnly rfl (fun _ _=>rfl) hk
 ·exact hk.elim
def vj (P:Program) (G:aU) (C:FuncId→Option aV) (f:FuncId) (xs:List TV):Prop:=KI P G C 3000 (fun _=>none) 0 f xs ⟨[], []⟩ gN
theorem Er {P:Program} {G:aU} {C:FuncId→Option aV} (hm:P.follows .mixedOrders=true) (hB:fG P=true) (hC:aZ P G C) {f:FuncId} {xs:List TV} {X:Prop} (h:vj P G C f xs=X) (hx:X):VCx P G 0 f xs ⟨[], []⟩ gN:=by
 have h1:vj P G C f xs:=by rw [h];exact hx
 unfold vj at h1
 exact IW hm hB hC ah h1
attribute [irreducible] vj

section
variable {H:Type} {enc:TypeId × Value→H} {P:Program} {w:World} {base:Nat} {spare:Nat→Bool} {held:Bool}
def oX (P:Program) (f:TypeId→Option (List TypeId)):Nat→List Field→Option (List TypeId)
 | _, []=>some []
 | off,fd::r=>match f fd.type with
  | some ls=>bif Nat.beq fd.offset off&&Nat.beq (P.cellsOf fd.type) ls.length then (oX P f (off+ls.length) r).map (ls++ ·) else none
  | none=>none
def lC (P:Program):Nat→TypeId→Option (List TypeId)
 | 0,_=>none
 | n+1,t=>match P.underlying t with
  | some (.struct fs)=>oX P (lC P n) 0 fs.toList
  | some (.array ..)=>none
  | _=>some [t]
theorem vk {f:TypeId→Option (List TypeId)} {m:Nat} {cs:List Value}
  (hf:∀t ts sub x,f t=some ts→sub.length=ts.length→DataW.trod enc P w base spare held m t sub=some x→∀(j:Nat) t',ts[j]?=some t' →∃u m' y,sub[j]?=some u∧DataW.trod enc P w base spare held m' t' [u]=some y):
  ∀(l:List Field) (off:Nat) (ts:List TypeId),oX P f off l=some ts→cs.length=off+ts.length→(∀fd∈l,∃y,DataW.trod enc P w base spare held m fd.type ((cs.drop fd.offset).take (P.cellsOf fd.type))=some y)→
   ∀(j:Nat) t',ts[j]?=some t' →∃u m' y,cs[off+j]?=some u∧DataW.trod enc P w base spare held m' t' [u]=some y
 | [],off,ts,h,hl,hy,j,t',hj=>by
  simp only [oX] at h
  injection h with h;subst h
  simp at hj
 | fd::l,off,ts,h,hl,hy,j,t',hj=>by
  simp only [oX] at h
  split at h
  ·rename_i ls hls
   cases hb:(Nat.beq fd.offset off&&Nat.beq (P.cellsOf fd.type) ls.length) with
   | false=>rw [hb] at h;cases h
   | true=>
    rw [hb] at h
    simp only [Bool.and_eq_true] at hb
    have h1:=Nat.eq_of_beq_eq_true hb.1
    have h2:=Nat.eq_of_beq_eq_true hb.2
    simp only [cond_true,Option.map_eq_some_iff] at h
    obtain ⟨ts',h3,rfl⟩:=h
    rw [List.length_append] at hl
    rcases Nat.lt_or_ge j ls.length with hj' | hj'
    ·rw [List.getElem?_append_left hj'] at hj
     obtain ⟨y,hy⟩:=hy fd (by simp)
     rw [h1,h2] at hy
     obtain ⟨u,m',y',k1,k2⟩:=hf _ _ _ _ hls (by rw [List.length_take,List.length_drop];omega) hy j t' hj
     refine ⟨u,m',y', ?_,k2⟩
     rw [List.getElem?_take,if_pos hj',List.getElem?_drop] at k1
     exact k1
    ·rw [List.getElem?_append_right hj'] at hj
     obtain ⟨u,m',y',k1,k2⟩:=vk hf l (off+ls.length) ts' h3 (by omega) (fun fd' h=>hy fd' (by simp [h])) (j-ls.length) t' hj
     refine ⟨u,m',y', ?_,k2⟩
     rw [←k1]
     congr 1
     omega
  ·cases h
theorem qV:∀(n:Nat) (m:Nat) (t:TypeId) (ts:List TypeId) (cs:List Value) (x:DataW H × List MemPlace),lC P n t=some ts→cs.length=ts.length→DataW.trod enc P w base spare held m t cs=some x→
    ∀(j:Nat) t',ts[j]?=some t' →∃u m' y,cs[j]?=some u∧DataW.trod enc P w base spare held m' t' [u]=some y
  | 0,_,_,_,_,_,h,_,_=>by simp only [lC] at h;cases h
  | n+1,m,t,ts,cs,x,h,hl,ht=>by
    simp only [lC] at h
    split at h
    · rename_i fs hs
      obtain ⟨xs,m',_,_,_,hlen,hg⟩:=DataW.trod_struct hs ht
      intro j t' hj
      have:=vk (P:=P) (enc:=enc) (w:=w) (base:=base) (spare:=spare) (held:=held) (m:=m') (cs:=cs) (fun t ts sub x h1 h2 h3=>qV n m' t ts sub x h1 h2 h3) fs.toList 0 ts h (by omega) ?_ j t' hj
      · simpa using this
      · intro fd hfd
        obtain ⟨i,hi,rfl⟩:=List.mem_iff_getElem.1 hfd
        have hi' :i<fs.size:=by simpa using hi
        have h1:=hg i fs[i] (Array.getElem?_eq_getElem hi')
        have hx:i<xs.length:=by omega
        exact ⟨xs[i],by simpa [List.getElem?_eq_getElem hx] using h1⟩
    · cases h
    · injection h with h;subst h
      intro j t' hj
      match cs,hl with
      | [u],_=>
        have:j=0:=by
          rcases j with _ | j
          · rfl
          · simp at hj
        subst this
        simp at hj;subst hj
        exact ⟨u,m,x,rfl,ht⟩
theorem IY {m ty:Nat} {u:Value} {y:DataW H × List MemPlace} {k:IntKind} (hk:P.underlying ty=some (.int k)) (h:DataW.trod enc P w base spare held m ty [u]=some y):∃n,u= .int k n∧(Lit.int k n).wf=true:=by
 obtain ⟨n,e0,_,wn⟩:=DataW.trod_int hk h
 injection e0 with e0
 exact ⟨n,e0,wn⟩
end
end
section
open Go.RowKit

section
variable {P:Program} {G:aU}
def vl:List Nat→List TV→Nat→Option TV
 | k::ks,v::vs,i=>bif Nat.beq k i then some v else vl ks vs i
 | _,_,_=>none
def mV (n:Nat) (keys:List Nat) (vs:List TV):List (Option TV):=(List.range n).map (vl keys vs)
def aR (n:Nat) (keys:List Nat) (vs:List TV):List TV:=pM (mV n keys vs)
def pick (keys:List Nat) (σ:List TV):List TV:=keys.map fun t=>σ.getD t .dead
theorem vm (σ:List TV):∀(keys:List Nat) (i:Nat) (x:TV),vl keys (pick keys σ) i=some x→x=σ.getD i .dead
 | [],_,_,h=>by simp [vl,pick] at h
 | k::ks,i,x,h=>by
  simp only [pick,List.map_cons,vl] at h
  cases hb:Nat.beq k i with
  | true=>
   rw [hb] at h
   have:=Nat.eq_of_beq_eq_true hb
   subst this
   injection h with h;exact h.symm
  | false=>rw [hb] at h;exact vm σ ks i x h
theorem Al:∀(σ:List TV) (m:List (Option TV)),m.length=σ.length→(∀(i:Nat) x,m[i]?=some (some x)→x=σ.getD i .dead)→LEs σ m
 | [], [],_,_=>trivial
 | [],_::_,h,_=>by simp at h
 | _::_, [],h,_=>by simp at h
 | x::l,none::m,h,k=>Al l m (by simpa using h) fun i y hy=>by simpa using k (i+1) y (by simpa using hy)
 | x::l,some y::m,h,k=>⟨by simpa using (k 0 y rfl).symm,Al l m (by simpa using h) fun i y hy=>by simpa using k (i+1) y (by simpa using hy)⟩
theorem mW (σ:List TV) (keys:List Nat):LEs σ (mV σ.length keys (pick keys σ)):=by
 refine Al _ _ (by simp [mV]) fun i x hx=> ?_
 simp only [mV,List.getElem?_map,Option.map_eq_some_iff] at hx
 obtain ⟨j,hj,hx⟩:=hx
 have e:j=i:=by
  have:=(List.getElem?_eq_some_iff.1 hj).2
  simpa using this.symm
 subst e
 exact vm σ keys j x hx
theorem IZ (f h:Nat→Option Nat) (keys:List Nat) (σ:List TV):pick keys (ar f h σ)=ar f h (pick keys σ):=by
 simp only [pick,fA,List.map_map]
 refine List.map_congr_left fun t _=> ?_
 simp only [Function.comp_apply,List.getD_eq_getElem?_getD,List.getElem?_map]
 cases σ[t]?<;>simp [TV.ren]
def dm (keys:List Nat) (Q:Exit→List TV→VT→List Nat→Nat→Prop):KX:=fun e σ T D=>Q e (pick keys σ) T D σ.length
theorem VWx.forget {rd:Option Nat} {ro:Nat} {c:Code} {σ:List TV} {T:VT} {n:Nat} {keys:List Nat} {K:KX} {Q:Exit→List TV→VT→Prop} (h:VWx P G rd ro c σ T [] (dm keys fun e vs T D m=>D= []∧m=n∧Q e vs T))
  (k:∀e vs T,Q e vs T→K e (aR n keys vs) T []):VWx P G rd ro c σ T [] K:=by
 intro r g w a rw0 hG hσ hd hD hr
 refine wpIn_mono (h r g w a rw0 hG hσ hd hD hr) ?_
 rintro e a' w' ⟨g',σ',T',D',⟨rfl,rfl,hq⟩,e',r',hσ',h⟩
 exact ⟨g',_,T', [],k _ _ _ hq,e',r',(mW σ' keys).ok hσ',h⟩

def SK {ι:Type} (n id:Nat) (μ:ι→Nat) (sl:ι→List TV) (tt:ι→VT) (Inv:ι→Prop) (N M:Nat) (s:ι) (Post:Exit→List TV→VT→Prop):Exit→List TV→VT→List Nat→Nat→Prop:=fun e vs T D m=>D= []∧m=n∧match e with
 | .normal=>∃s',Inv s' ∧μ s' <μ s∧((T=tt s' ∧vs=sl s')∨(T.keep N M=tt s' ∧ar (aw N) (aw M) vs=sl s'))
 | .exit i=>cond (Nat.beq i id) (Post .normal vs T) (Post (.exit i) vs T)
 | e=>Post e vs T
theorem dS {ι:Type} {f:FuncId} {id:Nat} (hc:jk id (aH P f id)=true) (n:Nat) (keys:List Nat) (μ:ι→Nat) (sl:ι→List TV) (tt:ι→VT) (Inv:ι→Prop) (N M:Nat) (hN:∀s,Inv s→(tt s).objs.length≤N∧(tt s).tails.length≤M) (Post:Exit→List TV→VT→Prop)
  (hbody:∀s,Inv s→VWx P G none 0 (cI P f id) (aR n keys (sl s)) (tt s) [] (dm keys (SK n id μ sl tt Inv N M s Post))):
  ∀s,Inv s→∀K:KX,(∀e vs T,Post e vs T→K e (aR n keys vs) T [])→VWx P G none 0 (aH P f id) (aR n keys (sl s)) (tt s) [] K:=by
 intro s hs K hK
 refine VWx.forget (n:=n) (keys:=keys) (Q:=Post) ?_ hK
 refine VWx.blockS hc μ (fun s=>mV n keys (sl s)) tt Inv N M hN (by simp) (fun s hs=>(hbody s hs).mono fun e σ T D hq=> ?_) s hs
 obtain ⟨rfl,hm,hq⟩:=hq
 cases e
 case normal=>
  refine ⟨rfl, ?_⟩
  obtain ⟨s',h1,h2,h3⟩:=hq
  refine ⟨s',h1,h2, ?_⟩
  rcases h3 with ⟨h3,h4⟩ | ⟨h3,h4⟩
  ·left;refine ⟨h3, ?_⟩
   show LEs σ (mV n keys (sl s'))
   rw [←h4,←hm];exact mW σ keys
  ·right;refine ⟨h3, ?_⟩
   show LEs _ (mV n keys (sl s'))
   rw [←h4,←IZ,←hm]
   have:=mW (ar (aw N) (aw M) σ) keys
   rwa [show (ar (aw N) (aw M) σ).length=σ.length by rw [fA];simp] at this
 case exit i=>
  simp only [pI,qM]
  simp only at hq
  cases hb:Nat.beq i id<;>rw [hb] at hq
  ·exact ⟨rfl,hm,hq⟩
  ·exact ⟨rfl,hm,hq⟩
 all_goals exact ⟨rfl,hm,hq⟩
theorem VWx.adopt {rd:Option Nat} {ro:Nat} {c:Code} {σ:List TV} {T:VT} {D:List Nat} {Q:KX} (d size:Nat) (hd:σ[d]?=some (.val (.slice none 0 0)))
  (h:VWx P G rd ro c (σ.set d (.vec size [] (.tail T.tails.length 0))) {T with tails:=T.tails++ [(0,size,true)]} D Q):VWx P G rd ro c σ T D Q:=by
 intro r g w a rw0 hG hσ hdf hDs hrd
 obtain ⟨g1,e1,r1,ht⟩:=rw0.newTail size true
 obtain ⟨u,hu,hv⟩:=hσ.at hd
 have hv' :=hv.val_inv
 subst hv'
 have h2:=(hσ.mono e1).set d (x:= .vec size [] (.tail T.tails.length 0)) (u:= .slice none 0 0) (.nil ⟨_,ht,Nat.le_refl _,rfl⟩)
 have h3:a.tmps.toList.set d (.slice none 0 0)=a.tmps.toList:=by
  apply List.ext_getElem?
  intro j
  rw [List.getElem?_set]
  split
  ·rename_i hj;subst hj;rw [hu,if_pos (List.getElem?_eq_some_iff.1 hu).1]
  ·rfl
 rw [h3] at h2
 refine wpIn_mono (h r g1 w a r1 (hG.mono e1) h2 (hdf.trans (lx e1 hDs).symm) (fk e1 hDs) (uU e1 hrd)) ?_
 rintro e a' w' ⟨g',σ',T',D',hq,e2,r',hσ',hd',hD',hx⟩
 exact ⟨g',σ',T',D',hq,e1.trans e2,r',hσ',hd',hD',⟨hx.len,fun i hi hl=>hx.same i hi hl,fun i o b hi ho hl hb=>hx.heap i o b hi ho hl (e1.obj i b hb)⟩⟩
def eI:List (Nat × Nat)→List TV→VT→List TV × VT
 | [],σ,T=>(σ,T)
 | p::l,σ,T=>eI l (σ.set p.1 (.vec p.2 [] (.tail T.tails.length 0))) {T with tails:=T.tails++ [(0,p.2,true)]}
def sG:List (Nat × Nat)→List TV→Prop
 | [],_=>True
 | p::l,σ=>σ[p.1]?=some (.val (.slice none 0 0))∧sG l (σ.set p.1 .dead)
def eU (n:Nat) (keys:List Nat) (ad:List (Nat × Nat)) (vs0:List TV) (T0:VT) (R:KX→Prop):b6:=fun rd ro σ T D K=>(rd=none∧ro=0∧D= []∧sG ad σ∧(eI ad σ T).2=T0∧Nat.beq σ.length n=true∧pick keys (eI ad σ T).1=vs0)∧R K
theorem qW {rd:Option Nat} {ro:Nat} {c:Code} {D:List Nat} {Q:KX}:∀(ad:List (Nat × Nat)) (σ σ' :List TV) (T:VT),sG ad σ' →(∀(i:Nat),σ'[i]?=some (.val (.slice none 0 0))→σ[i]?=some (.val (.slice none 0 0)))→σ.length=σ'.length→
  VWx P G rd ro c (eI ad σ T).1 (eI ad σ T).2 D Q→VWx P G rd ro c σ T D Q
 | [],_,_,_,_,_,_,h=>h
 | p::l,σ,σ',T,ho,hs,hl,h=>by
  obtain ⟨h1,h2⟩:=ho
  refine VWx.adopt p.1 p.2 (hs _ h1) (qW l _ (σ'.set p.1 .dead) _ h2 (fun i hi=> ?_) (by simpa using hl) h)
  rw [List.getElem?_set] at hi ⊢
  split
  ·rename_i e;subst e;rw [if_pos rfl] at hi;split at hi<;>simp at hi
  ·rename_i e;rw [if_neg e] at hi;exact hs i hi
theorem mX:∀(ad:List (Nat × Nat)) (σ:List TV) (T:VT),(eI ad σ T).1.length=σ.length
 | [],_,_=>rfl
 | p::l,σ,T=>by rw [eI,mX l];simp
theorem cA {c:Code} {n:Nat} {keys:List Nat} {ad:List (Nat × Nat)} {vs0:List TV} {T0:VT} {R:KX→Prop} (h:∀K,R K→VWx P G none 0 c (aR n keys vs0) T0 [] K):
  ∀rd ro σ T D K,eU n keys ad vs0 T0 R rd ro σ T D K→VWx P G rd ro c σ T D K:=by
 rintro rd ro σ T D K ⟨⟨rfl,rfl,rfl,ha,rfl,hn,rfl⟩,hR⟩
 obtain rfl:=Nat.eq_of_beq_eq_true hn
 refine qW ad σ σ T ha (fun _ h=>h) rfl ((h K hR).sub fun g w us hu=> ?_)
 have:=(mW (eI ad σ T).1 keys).ok hu
 rwa [mX] at this
def cJ:List (Nat × b6 × Code)→Nat→Option (b6 × Code)
 | [],_=>none
 | (i,W,c)::l,j=>bif Nat.beq i j then some (W,c) else cJ l j
theorem bL:∀{l:List (Nat × b6 × Code)},(∀p∈l,∀rd ro σ T D K,p.2.1 rd ro σ T D K→VWx P G rd ro p.2.2 σ T D K)→dD P G (cJ l)
 | [],_=>fun _ _ _ h=>by cases h
 | (i,W,c)::l,h=>fun j W' c' hW=>by
  simp only [cJ] at hW
  cases hb:Nat.beq i j with
  | true=>
   rw [hb] at hW
   injection hW with hW;injection hW with h1 h2;subst h1 h2
   exact h _ List.mem_cons_self
  | false=>
   rw [hb] at hW
   exact bL (fun p hp=>h p (List.mem_cons_of_mem _ hp)) j W' c' hW

def F9 (xs:List TV) (y:TV):aV:=fun _ ys T K=>ys=xs∧K y T
theorem Ga {f:FuncId} {xs:List TV} {y:TV} (hv:dl G) (hx:ar (bb []) (bb []) xs=xs) (hy:∀f h,y.ren f h=y) (h:VCx P G 0 f xs ⟨[], []⟩ fun x T' =>x=y∧T' =⟨[], []⟩):
  ∀ro ys T K,F9 xs y ro ys T K→VCx P G ro f ys T K:=by
 rintro ro ys T K ⟨rfl,hk⟩
 exact VCx.liftPure hv h hx hy hk
theorem b7 {C:FuncId→Option aV} (hm:P.follows .mixedOrders=true) (hB:fG P=true) (hC:aZ P G C) {F:iW} {n:Nat} {L:Nat→Option (b6 × Code)} (hL:dD P G L) {rd:Option Nat} {ro:Nat} {c:Code} {σ:List TV} {T:VT} {D:List Nat} {K:KX} {X:Prop}
  (h:vx P G C F n L rd ro c σ T D K=X) (hx:X):VWx P G rd ro c σ T D K:=vh hm hB hC n n (Nat.le_refl _) F L hL _ _ _ _ _ _ _ (by rw [h];exact hx)
theorem ai {C:FuncId→Option aV} (hm:P.follows .mixedOrders=true) (hB:fG P=true) (hC:aZ P G C) {F:iW} {n:Nat} {L:Nat→Option (b6 × Code)} (hL:dD P G L) {ro:Nat} {f:FuncId} {xs:List TV} {T:VT} {K:TV→VT→Prop} {X:Prop}
  (h:au P G C F n L ro f xs T K=X) (hx:X):VCx P G ro f xs T K:=xU hm hB hC hL (by rw [h];exact hx)

theorem Es {t e:TypeId} {inf:TypeInfo} {es:List (List TV)} {tok:Tok} {k:IntKind} {z:Int} {cs:List TV} (ht:P.underlying t=some (.slice e)) (hi:P.info? e=some inf) (h0:0≤z) (he:es[z.toNat]?=some cs):
  fh P t (.vec inf.size es tok) (.val (.int k z))=some (.elt cs):=by
 simp [fh,ht,hi,h0,he]
theorem gO {t e:TypeId} {x i:Operand} {l:List (Nat × TV)} {inf:TypeInfo} {es:List (List TV)} {tok:Tok} {k:IntKind} {z:Int} {cs:List TV} (ht:P.underlying t=some (.slice e)) (hi:P.info? e=some inf)
  (hx:aS G l x= .vec inf.size es tok) (hz:aS G l i= .val (.int k z)) (h0:0≤z) (he:es[z.toNat]?=some cs):bo P G (.indexAddr t x i) l (.elt cs):=by
 refine ⟨?_⟩
 simp only [bm,hx,hz,mt,Es ht hi h0 he]
end
end
section
open Go.RowKit

section
variable {P:Program} {G:aU}
def bG:TV→TV
 | .vec s es _=> .vec s es .none
 | x=>x
theorem mg {g:Gh} {w:World} {x:TV} {u:Value} (h:VR g w x u):VR g w (bG x) u:=by
 cases x with
 | vec s es t=>
  rcases h.vec_inv with ⟨rfl,rfl,h1⟩ | ⟨b,o,c,us,rfl,f1,f2,f3,f4,f5,f6,f7,f8⟩ | ⟨a,rfl,rfl,_⟩
  rotate_left 2
  ·exact .odd a trivial
  ·exact .nil trivial
  ·exact .mk_vec rfl f1 f2 f3 trivial f5 f6 f7 f8
 | _=>exact h
def kS:List Nat→List TV→List TV
 | [],σ=>σ
 | t::l,σ=>kS l (σ.set t (bG (σ.getD t .dead)))
theorem ti {g:Gh} {w:World}:∀(l:List Nat) {σ:List TV} {us:List Value},VRs g w σ us→VRs g w (kS l σ) us
 | [],_,_,h=>h
 | t::l,σ,us,h=>by
  refine ti l ⟨by simpa using h.1,fun j x u hx hu=> ?_⟩
  rw [List.getElem?_set] at hx
  split at hx
  ·rename_i e;subst e
   split at hx
   ·rename_i hl
    injection hx with hx;subst hx
    refine mg (h.2 t _ u ?_ hu)
    rw [List.getD_eq_getElem?_getD,List.getElem?_eq_getElem hl];rfl
   ·cases hx
  ·exact h.2 j x u hx hu
theorem qX:∀(l:List Nat) (σ:List TV),(kS l σ).length=σ.length
 | [],_=>rfl
 | t::l,σ=>by rw [kS,qX l];simp
def Et (n:Nat) (keys:List Nat) (ad:List (Nat × Nat)) (lo:List Nat) (vs0:List TV) (T0:VT) (R:KX→Prop):b6:=fun rd ro σ T D K=>(rd=none∧ro=0∧D= []∧sG ad σ∧(eI ad σ T).2=T0∧Nat.beq σ.length n=true∧pick keys (kS lo (eI ad σ T).1)=vs0)∧R K
theorem Am {c:Code} {n:Nat} {keys:List Nat} {ad:List (Nat × Nat)} {lo:List Nat} {vs0:List TV} {T0:VT} {R:KX→Prop} (h:∀K,R K→VWx P G none 0 c (aR n keys vs0) T0 [] K):
  ∀rd ro σ T D K,Et n keys ad lo vs0 T0 R rd ro σ T D K→VWx P G rd ro c σ T D K:=by
 rintro rd ro σ T D K ⟨⟨rfl,rfl,rfl,ha,rfl,hn,rfl⟩,hR⟩
 obtain rfl:=Nat.eq_of_beq_eq_true hn
 refine qW ad σ σ T ha (fun _ h=>h) rfl ((h K hR).sub fun g w us hu=> ?_)
 have:=(mW (kS lo (eI ad σ T).1) keys).ok (ti lo hu)
 rwa [qX,mX] at this

theorem An {t e:TypeId} {x i:Operand} {l:List (Nat × TV)} {inf:TypeInfo} {es:List (List TV)} {tok:Tok} {k:IntKind} {z:Int} (ht:P.underlying t=some (.slice e)) (hi:P.info? e=some inf)
  (hx:aS G l x= .vec inf.size es tok) (hz:aS G l i= .val (.int k z)) (h0:0≤z) (he:z.toNat≤es.length):bo P G (.slice t x none (some i) none) l (.vec inf.size (es.take z.toNat) .none):=by
 refine ⟨?_⟩
 simp [bm,hx,hz,my,oN,oO,mI,ht,hi,gW,fO,h0,he]
theorem I0 {t e:TypeId} {x i:Operand} {l:List (Nat × TV)} {inf:TypeInfo} {es:List (List TV)} {tok:Tok} {k:IntKind} {z:Int} (ht:P.underlying t=some (.slice e)) (hi:P.info? e=some inf)
  (hx:aS G l x= .vec inf.size es tok) (hz:aS G l i= .val (.int k z)) (h0:0≤z) (he:z.toNat≤es.length):bo P G (.slice t x (some i) none none) l (.vec inf.size (es.drop z.toNat) tok):=by
 refine ⟨?_⟩
 simp [bm,hx,hz,my,oN,oO,mI,ht,hi,gW,fO,h0,he]
theorem gj {ro:Nat} {T T1:VT} {t e tx:TypeId} {s x:Operand} {l:List (Nat × TV)} {inf:TypeInfo} {z:Value} {es es2:List (List TV)} {k n:Nat} {bn:Bool} (ht:P.underlying t=some (.slice e)) (hi:P.info? e=some inf) (hz:inf.zero=some z) (hzs:z.cells.size=inf.size) (hp:0<inf.size)
  (hsl:fT (P.underlying tx)=true) (hs:cZ T inf.size (aS G l s)=some (es,k,n,bn,T1)) (hx:gY inf.size (aS G l x)=some es2) (hb:(es.length+es2.length)*(inf.bytes+1)≤140737488355328):
  ba P G ro T (.call ⟨.builtin .append, #[s,x], #[t,tx]⟩) l (.vec inf.size (es++es2) (.tail k (n+es2.length))) {T1 with tails:=T1.tails.set k (n+es2.length,inf.size,bn)}:=by
 refine .old rfl ?_
 have h1:gI P T t tx (aS G l s) (aS G l x)=some (.vec inf.size (es++es2) (.tail k (n+es2.length)),{T1 with tails:=T1.tails.set k (n+es2.length,inf.size,bn)}):=by
  simp [gI,ht,hi,hz,hs,hx,hzs,hp,hsl,hb]
 simp [s7,dj,j6,mL,h1]
end
end
section
open Go.RowKit

section
variable {P:Program} {G:aU}
theorem VRs.loose {g:Gh} {w:World} {xs:List TV} {us:List Value} (h:VRs g w xs us):VRs g w (xs.map bG) us:=by
 refine ⟨by simpa using h.1,fun j x u hx hu=> ?_⟩
 simp only [List.getElem?_map,Option.map_eq_some_iff] at hx
 obtain ⟨y,hy,rfl⟩:=hx
 exact mg (h.2 j y u hy hu)
theorem VCx.loose {ro:Nat} {f:FuncId} {xs:List TV} {T:VT} {Q:TV→VT→Prop} (h:VCx P G ro f (xs.map bG) T Q):VCx P G ro f xs T Q:=fun g w us r hG hx=>h g w us r hG hx.loose
theorem VCx.loosePure {ro:Nat} {f:FuncId} {xs ys:List TV} {T:VT} {y:TV} {K:TV→VT→Prop} (hv:dl G) (h:VCx P G 0 f xs ⟨[], []⟩ fun x T' =>x=y∧T' =⟨[], []⟩) (hy:ys.map bG=xs) (hx:ar (bb []) (bb []) xs=xs) (hr:∀f h,y.ren f h=y) (k:K y T):VCx P G ro f ys T K:=
 VCx.loose (VCx.liftPure hv h (by rw [hy];exact hx) hr k)
theorem VCx.looseAny {ro:Nat} {f:FuncId} {xs ys:List TV} {T:VT} {Y:TV→Prop} {K:TV→VT→Prop} (hv:dl G) (h:VCx P G 0 f xs ⟨[], []⟩ fun x T' =>Y x∧T' =⟨[], []⟩) (hy:ys.map bG=xs) (hx:ar (bb []) (bb []) xs=xs) (hr:∀y,Y y→∀f h,y.ren f h=y) (k:∀y,Y y→K y T):VCx P G ro f ys T K:=by
 refine VCx.loose ((VCx.lift (xs:=xs) (T:=T) [] [] hv List.nodup_nil List.nodup_nil (by simp) (by simp) (by simp) (by rw [hy];exact hx) (by rw [VT.give_nil];exact h) (fun _ _ _=>⟨Nat.zero_le _,Nat.zero_le _⟩)).mono ?_)
 rintro z T' ⟨x,T'',⟨hY,rfl⟩,rfl,rfl⟩
 have hb:T.back [] [] ⟨[], []⟩=T:=by rw [VT.back_nil];cases T;simp
 rw [hr x hY,hb];exact k x hY
theorem aM {b:Bool} {X Y:Prop} (h:b=false) (k:Y):cond b X Y:=by subst h;exact k
theorem aQ {b:Bool} {X Y:Prop} (h:b=true) (k:X):cond b X Y:=by subst h;exact k
end
end
section
open Go.RowKit

section
variable {P:Program} {G:aU} {g:Gh} {T:VT} {w:World}
theorem mh (r:RW g T w) {id size off n:Nat} {es:List (List TV)} {u:Value} (h:bQ T size (.row size id off n)=some es) (hx:VR g w (.row size id off n) u):
    ∃g',Evo g w g' w∧RW g' (T.kill id) w∧VR g' w (.vec size es .none) u:=by
  simp only [bQ] at h
  split at h
  · rename_i cs hid
    cases hb:(Nat.beq size size&&Nat.ble ((off+n)*size) cs.length) with
    | false=>rw [hb] at h;cases h
    | true=>
      rw [hb] at h;injection h with h;subst h
      simp only [Bool.and_eq_true] at hb
      have hle:=Nat.le_of_ble_eq_true hb.2
      obtain ⟨b,c,h1,h2,h3,h4,h5,rfl⟩:=hx.row_inv
      obtain ⟨b',q1,⟨us,t,q2,q3,q4,q5⟩,q6,q7⟩:=r.obj id _ hid rfl
      rw [h1] at q1;injection q1 with q1;subst q1
      rw [Nat.add_mul] at hle
      have hl:((cs.drop (off*size)).take (n*size)).length=n*size:=by simp;omega
      obtain ⟨k1,k2,k3⟩:=fB hl
      have hv:=(q4.drop (off*size)).take (n*size)
      have hl2:(((us.take cs.length).drop (off*size)).take (n*size)).length=n*size:=by simp;omega
      have hcell:∀(j:Nat) v,(((us.take cs.length).drop (off*size)).take (n*size))[j]?=some v→w.cell? ⟨b,off*size+j,none⟩=some v:=fun j v hv=>by
        rw [World.cell?,q2]
        simp only [List.getElem?_take,List.getElem?_drop] at hv
        split at hv
        · split at hv
          · simpa using hv
          · cases hv
        · cases hv
      have fr:=py r hid rfl h1
      have e:=Evo.addSt (g:=g) (w:=w) (S:=fun o=>off*size≤o∧o<off*size+n*size) q6
      refine ⟨_,e,(r.kill hid rfl h1).addSt q6 fr.obj (fun k x o hx _ hin=>fr.tl k x hx (.inl ⟨o,hin⟩)) (fun o ho=> ?_), ?_⟩
      · have hj:o-off*size<(((us.take cs.length).drop (off*size)).take (n*size)).length:=by rw [hl2];omega
        have:=hcell (o-off*size) _ (List.getElem?_eq_getElem hj)
        rw [show off*size+(o-off*size)=o by omega] at this
        rw [this];rfl
      · refine .mk_vec (us:=((us.take cs.length).drop (off*size)).take (n*size)) k1.symm h3 h4 k2 trivial (by rw [k3];exact hv.mono e) (fun j hj=> .inr ⟨rfl, ?_⟩) hcell (fun u hu=>q5 u (List.mem_of_mem_drop (List.mem_of_mem_take hu)))
        rw [k3,hl] at hj
        omega
  · cases h
def vn (x:TV) (T:VT):Option (Nat × List (List TV)):=match x with
 | .row size id off n=>(bQ T size (.row size id off n)).map fun es=>(size,es)
 | _=>none
theorem VCx.freezeRow {f:FuncId} {xs:List TV} {size:Nat} {es:List (List TV)} (hes:∀f h,bg f h es=es) (h:VCx P G 0 f xs ⟨[], []⟩ fun x T' =>vn x T' =some (size,es)):VCx P G 0 f xs ⟨[], []⟩ fun x T' =>x= .vec size es .none∧T' =⟨[], []⟩:=by
 refine VCx.keepQ 0 0 (Nat.le_refl _) (Nat.le_refl _) ?_
 intro g w us rw0 hG hx
 refine Calls.mono (h g w us rw0 hG hx) ?_
 rintro e w' ⟨v,x,g',T',he,hq,e',r',hv,hfx⟩
 unfold vn at hq
 split at hq
 ·rename_i sz id off n
  simp only [Option.map_eq_some_iff,Prod.mk.injEq] at hq
  obtain ⟨es',h1,rfl,rfl⟩:=hq
  obtain ⟨g2,e2,r2,v2⟩:=mh r' h1 hv
  exact ⟨v,_,g2,_,he,⟨by simp only [TV.ren,hes,Tok.ren],by simp [VT.keep]⟩,e'.trans e2,r2,v2,⟨by simp,fun i hi=>absurd hi (Nat.not_lt_zero i),fun i o b hi=>absurd hi (Nat.not_lt_zero i)⟩⟩
 ·cases hq
end
end
section
open Go.RowKit

section
variable {P:Program} {G:aU}
theorem VWx.freeze {rd:Option Nat} {ro:Nat} {c:Code} {σ:List TV} {T:VT} {D:List Nat} {Q:KX} {slot size id off n:Nat} {es:List (List TV)} (hs:σ[slot]?=some (.row size id off n)) (hr:bQ T size (.row size id off n)=some es) (hro:ro≤id)
  (h:VWx P G rd ro c (σ.set slot (.vec size es .none)) (T.kill id) D Q):VWx P G rd ro c σ T D Q:=by
 intro r g w a rw0 hG hσ hdf hDs hrd
 obtain ⟨u,hu,hv⟩:=hσ.at hs
 obtain ⟨g1,e1,r1,v1⟩:=mh rw0 hr hv
 have h2:=(hσ.mono e1).set slot v1
 have h3:a.tmps.toList.set slot u=a.tmps.toList:=by
  apply List.ext_getElem?
  intro j
  rw [List.getElem?_set]
  split
  ·rename_i hj;subst hj;rw [hu,if_pos (List.getElem?_eq_some_iff.1 hu).1]
  ·rfl
 rw [h3] at h2
 refine wpIn_mono (h r g1 w a r1 (hG.mono e1) h2 (hdf.trans (lx e1 hDs).symm) (fk e1 hDs) (uU e1 hrd)) ?_
 rintro e a' w' ⟨g',σ',T',D',hq,e2,r',hσ',hd',hD',hx⟩
 have hlen:(T.kill id).objs.length=T.objs.length:=by simp [VT.kill]
 have hat:∀i,i<ro→(T.kill id).objs[i]?=T.objs[i]?:=fun i hi=>by
  simp only [VT.kill,List.getElem?_set]
  rw [if_neg (by omega)]
 exact ⟨g',σ',T',D',hq,e1.trans e2,r',hσ',hd',hD',⟨by rw [←hlen];exact hx.len,fun i hi hl=>(hx.same i hi (by rw [hlen];exact hl)).trans (hat i hi),fun i o b hi ho hl hb=>hx.heap i o b hi ((hat i hi).trans ho) hl (e1.obj i b hb)⟩⟩
def CG (P:Program) (G:aU) (C:FuncId→Option aV) (F:iW) (n:Nat) (c:Code) (slot size id off m:Nat) (es:List (List TV)):b6:=fun rd ro σ T D K=>(σ[slot]?=some (.row size id off m)∧bQ T size (.row size id off m)=some es∧Nat.ble ro id=true)∧vx P G C F n (fun _=>none) rd ro c (σ.set slot (.vec size es .none)) (T.kill id) D K
theorem Eu {C:FuncId→Option aV} (hm:P.follows .mixedOrders=true) (hB:fG P=true) (hC:aZ P G C) {F:iW} {n:Nat} {c:Code} {slot size id off m:Nat} {es:List (List TV)}:
  ∀rd ro σ T D K,CG P G C F n c slot size id off m es rd ro σ T D K→VWx P G rd ro c σ T D K:=by
 rintro rd ro σ T D K ⟨⟨h1,h2,h3⟩,h4⟩
 exact VWx.freeze h1 h2 (Nat.le_of_ble_eq_true h3) (vh hm hB hC n n (Nat.le_refl _) F _ ah _ _ _ _ _ _ _ h4)
def Ao (T:VT):List (Nat × TV × Option (VT→VT))→Nat→Option (TV × Option VT)
 | [],_=>none
 | (t,y,g)::l,s=>bif Nat.beq t s then some (y,match g with | some g=>some (g T) | none=>none) else Ao T l s
def bc (l:List (Nat × TV × Option (VT→VT))):iW:=fun o _ T=>match o.op with
 | .store _ (.tmp a) _=>Ao T l (500000+a)
 | _=>match o.dst with
  | some d=>Ao T l d
  | none=>none
theorem Ap {t e:TypeId} {x i:Operand} {l:List (Nat × TV)} {inf:TypeInfo} {id off n:Nat} {k:IntKind} {z:Int} (ht:P.underlying t=some (.slice e)) (hi:P.info? e=some inf)
  (hx:aS G l x= .row inf.size id off n) (hz:aS G l i= .val (.int k z)) (h0:0≤z) (h1:z<n):bo P G (.indexAddr t x i) l (.ptr id (off*inf.size+z.toNat*inf.size)):=by
 refine ⟨?_⟩
 simp [bm,hx,hz,mt,ht,hi,h0,h1,Nat.beq_refl]
theorem Aq {ro:Nat} {T:VT} {t:TypeId} {a x:Operand} {l:List (Nat × TV)} {inf:TypeInfo} {id off:Nat} {cs new:List TV} (hi:P.info? t=some inf)
  (ha:aS G l a= .ptr id off) (hx:bu (aS G l x)=some new) (ho:T.objs[id]?=some (.row cs)) (hn:inf.size=new.length) (hle:off+new.length≤cs.length) (hc:new.all fj=true) (hro:ro≤id):
  ba P G ro T (.store t a x) l (.val undef) {T with objs:=T.objs.set id (.row (bS cs off new))}:=by
 refine .mk ?_
 have h1:bm P (.store t a x) (aS G l)=none:=by simp [bm,dI]
 have h2:bh P T (.store t a x) (aS G l)=none:=by simp [bh,dj]
 have h3:j8 P ro T (.store t a x) (aS G l)=some (.val undef,{T with objs:=T.objs.set id (.row (bS cs off new))}):=by
  simp only [j8,mu,ha,ho,hx,hi]
  rw [hn,Nat.beq_refl,Nat.ble_eq_true_of_le hle,hc,Nat.ble_eq_true_of_le hro];rfl
 simp only [fX,h1,h2,h3]
theorem Ev {ro:Nat} {T:VT} {t e tx:TypeId} {s x:Operand} {l:List (Nat × TV)} {inf:TypeInfo} {z:Value} {q0:List TV} {qs:List (List TV)} {tok:Tok} (ht:P.underlying t=some (.slice e)) (hi:P.info? e=some inf) (hz:inf.zero=some z) (hzs:z.cells.size=inf.size) (hz1:z.cells.toList.all Value.oneCell' =true)
  (hsl:fT (P.underlying tx)=true) (hs:aS G l s= .vec inf.size [] .full) (hx:aS G l x= .vec inf.size (q0::qs) tok) (hb:(q0::qs).length*(inf.bytes+1)≤140737488355328):
  ba P G ro T (.call ⟨.builtin .append, #[s,x], #[t,tx]⟩) l (.row inf.size T.objs.length 0 (q0::qs).length) (T.newRow (q0::qs).flatten):=by
 refine .mk ?_
 have h1:bm P (.call ⟨.builtin .append, #[s,x], #[t,tx]⟩) (aS G l)=none:=by simp [bm,dI]
 have h2:bh P T (.call ⟨.builtin .append, #[s,x], #[t,tx]⟩) (aS G l)=none:=by simp [bh,dj,j6]
 have hr:bQ T inf.size (.vec inf.size (q0::qs) tok)=some (q0::qs):=by simp [bQ,Nat.beq_refl]
 have h4:mf P T t tx (.vec inf.size [] .full) (.vec inf.size (q0::qs) tok)=none:=by simp [mf,ht]
 have h3:me P ro T t tx (.vec inf.size [] .full) (.vec inf.size (q0::qs) tok)=some (.row inf.size T.objs.length 0 (q0::qs).length,T.newRow (q0::qs).flatten):=by
  unfold me
  simp only [ht,hi,hz,hr,hzs,decide_true,hz1,hsl,Bool.and_self,cond_true,Nat.beq_refl,List.length_nil,Nat.zero_add,List.flatten_nil,List.nil_append,Nat.ble_eq_true_of_le hb]
 have h5:sC P ro T t tx (.vec inf.size [] .full) (.vec inf.size (q0::qs) tok)=none:=rfl
 simp only [fX,h1,h2,j8,hs,hx,hsl,h4,h5,h3,cond_true]
end
end
section
open Go.RowKit

section
variable {P:Program} {G:aU}
theorem kT (size:Nat):∀{es:List (List TV)},(∀e∈es,e.length=size)→cY size es.length es.flatten=es
 | [],_=>rfl
 | e::es,h=>by
  have h1:e.length=size:=h e List.mem_cons_self
  have h2:=kT size (es:=es) fun e he=>h e (List.mem_cons_of_mem _ he)
  simp only [List.length_cons,cY,List.flatten_cons]
  rw [List.take_left' h1,List.drop_left' h1,h2]
theorem kg {T:VT} {size id:Nat} {es:List (List TV)} (ho:T.objs[id]?=some (.row es.flatten)) (hz:∀e∈es,e.length=size):bQ T size (.row size id 0 es.length)=some es:=by
 have hl:=bJ hz
 have e1:((es.flatten.drop (0*size)).take (es.length*size))=es.flatten:=by
  rw [Nat.zero_mul,List.drop_zero,←hl,List.take_length]
 simp only [bQ,ho]
 rw [e1,kT size hz,Nat.beq_refl,Nat.zero_add,hl,Nat.ble_eq_true_of_le (Nat.le_refl _)]
 rfl
theorem VCx.freeze {f:FuncId} {xs:List TV} {T:VT} {size:Nat} {es:List (List TV)} {Q:VT→Prop} (h:VCx P G 0 f xs T fun x T' =>∃id off n,x= .row size id off n∧bQ T' size (.row size id off n)=some es∧Q (T'.kill id)):
  VCx P G 0 f xs T fun x T' =>x= .vec size es .none∧Q T' :=by
 intro g w us rw0 hG hx
 refine Calls.mono (h g w us rw0 hG hx) ?_
 rintro e w' ⟨v,x,g',T',he,⟨id,off,n,rfl,h1,hq⟩,e',r',hv,hfx⟩
 obtain ⟨g2,e2,r2,v2⟩:=mh r' h1 hv
 refine ⟨v,_,g2,_,he,⟨rfl,hq⟩,e'.trans e2,r2,v2,⟨?_,fun i hi=>absurd hi (Nat.not_lt_zero i),fun i o b hi=>absurd hi (Nat.not_lt_zero i)⟩⟩
 have:=hfx.len
 simp only [VT.kill,List.length_set];exact this
end
end
section
open Go.RowKit

section
variable {P:Program} {G:aU} {g:Gh} {T:VT} {w:World}
end
end

end Go.Proofs.YtogbdjlelkepcaaGreatDoor