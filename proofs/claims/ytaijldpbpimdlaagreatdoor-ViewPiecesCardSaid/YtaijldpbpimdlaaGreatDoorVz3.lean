/-Part 3 of the proof of viewPiecesCard_holds:Vpm,Vev,Vok ... No condition. -/
import Derived.Test.YtaijldpbpimdlaaGreatDoorVz1
import Derived.Test.YtaijldpbpimdlaaGreatDoorVz2
set_option maxRecDepth 100000
namespace Go.Proofs.YtaijldpbpimdlaaGreatDoor
open Go.RowKit
open Go.Act (eval)
open _root_.Array (getD_eq_getD_getElem? getElem?_push getElem?_toList getElem_mem mem_toList_iff replicate size_push)
open _root_.Bool (and_eq_true not_eq_true' or_eq_true)
open _root_.Classical (not_forall)
open Go.Instr (storeAt)
open _root_.List (all_eq_true any_eq_true ext_getElem? getElem?_eq_getElem getElem?_eq_none getElem?_set getElem?_take length length_take mem_cons mem_cons_of_mem mem_cons_self mem_range nodup_cons range' take_length)
open _root_.Nat (beq beq_refl ble eq_of_beq_eq_true land le_of_ble_eq_true le_refl le_trans lor lt_or_ge zero_add)
open Go.Oper (uponIn wp)
open _root_.Option (getD_some isSome_none map_eq_some_iff map_some)
open Go.Region (binds free free_spec noSelect ready wanted)
open Go.Result (andThen_ok)
def fE (i:Nat):Nat:=Nat.shiftLeft 1 i
def gC (m i:Nat):Bool:=bif beq (land 1 (Nat.shiftRight m i)) 0 then false else true
def fF:List Edge→Nat
 |[]=>0
 |e::l=>bif binds .any e then lor (fE e.on) (fF l) else fF l
def jz:List Oper→List Nat
 |[]=> []
 |o::l=>fF o.after.toList::jz l
def dt:Nat→List Nat→Nat→List Nat
 |_,[],_=> []
 |i,d::l,m=>bif gC m i then dt (i+1) l m else bif beq (land d m) d then i::dt (i+1) l m else dt (i+1) l m
def jA:List Nat→Nat
 |[]=>0
 |i::l=>lor (fE i) (jA l)
def sG:List Nat→Nat→Nat
 |[],_=>0
 |a::l,k=>match k with
  | 0=>a
  |k+1=>sG l k
def qc (i:Nat)(A:List Nat):List Edge→Nat
 |[]=>0
 |e::l=>bif binds .any e then lor (lor (fE e.on) (sG A (i-1-e.on))) (qc i A l) else qc i A l
def qV:List Oper→Nat→List Nat→List Nat
 |[],_,A=>A
 |o::l,i,A=>qV l (i+1) (qc i A o.after.toList::A)
def KT (n:Nat)(A:List Nat)(i k:Nat):Bool:=gC (sG A (n-1-i)) k
theorem oZ (m i:Nat):gC m i=m.testBit i:=by
 unfold gC Nat.testBit
 show (bif beq (1&&&(m>>>i)) 0 then false else true)=_
 cases h:beq (1&&&(m>>>i)) 0 with
 |true=>rw [eq_of_beq_eq_true h];rfl
 |false=>
  have:=Nat.ne_of_beq_eq_false h
  exact (bne_iff_ne.2 this).symm
theorem o7 (i j:Nat):(fE i).testBit j=decide (i=j):=by
 show (1<<<i).testBit j=_
 rw [Nat.one_shiftLeft,Nat.testBit_two_pow]
theorem lG (a b j:Nat):(lor a b).testBit j=(a.testBit j || b.testBit j):=Nat.testBit_or a b j
theorem jS:∀(l:List Edge) (j:Nat),(fF l).testBit j=true ↔ ∃e∈l,binds .any e=true∧e.on=j
 |[],j=>by simp [fF]
 |e::l,j=>by
  simp only [fF]
  cases hb:binds .any e with
  |true=>
   rw [cond_true,lG,or_eq_true,o7,decide_eq_true_eq,jS l j]
   constructor
   ·rintro (h | ⟨e',h1,h2⟩)
    ·exact ⟨e,mem_cons_self,hb,h⟩
    ·exact ⟨e',mem_cons_of_mem _ h1,h2⟩
   ·rintro ⟨e',h1,h2,h3⟩
    rcases mem_cons.1 h1 with rfl | h1
    ·exact .inl h3
    ·exact .inr ⟨e',h1,h2,h3⟩
  |false=>
   rw [cond_false,jS l j]
   constructor
   ·rintro ⟨e',h1,h2⟩;exact ⟨e',mem_cons_of_mem _ h1,h2⟩
   ·rintro ⟨e',h1,h2,h3⟩
    rcases mem_cons.1 h1 with rfl | h1
    ·rw [hb] at h2;cases h2
    ·exact ⟨e',h1,h2,h3⟩
theorem KU (d m:Nat):beq (land d m) d=true ↔ ∀j,d.testBit j=true→m.testBit j=true:=by
 constructor
 ·intro h j hj
  have h1:(d&&&m)=d:=eq_of_beq_eq_true h
  have:=Nat.testBit_and d m j
  rw [h1,hj] at this
  simpa using this.symm
 ·intro h
  have:(d&&&m)=d:=Nat.eq_of_testBit_eq λj=>by
   rw [Nat.testBit_and]
   cases hd:d.testBit j with
   |true=>simp [h j hd]
   |false=>rfl
  show beq (d&&&m) d=true
  rw [this];exact beq_refl d
def MaskOk (n:Nat)(m:Nat)(V:Array Bool):Prop:=V.size=n∧∀i,V.getD i false=m.testBit i
theorem MaskOk.zero (n:Nat):MaskOk n 0 (replicate n false):=by
 refine ⟨by simp,λi=> ?_⟩
 rw [getD_eq_getD_getElem?,Array.getElem?_replicate]
 split<;>simp
theorem MaskOk.set {n m:Nat}{V:Array Bool}(h:MaskOk n m V){i:Nat}(hi:i<n):MaskOk n (lor m (fE i)) (V.setIfInBounds i true):=by
 refine ⟨by simp [h.1],λj=> ?_⟩
 rw [lG,o7,getD_eq_getD_getElem?,Array.getElem?_setIfInBounds]
 by_cases hij:i=j
 ·subst hij
  have:i<V.size:=by rw [h.1];exact hi
  simp [this]
 ·simp only [hij,if_false,decide_false,Bool.or_false]
  rw [←h.2 j,getD_eq_getD_getElem?]
section
variable {ops:Array Oper}
theorem Ey {n m:Nat}{V:Array Bool}(h:MaskOk n m V)(o:Oper):beq (land (fF o.after.toList) m) (fF o.after.toList)=o.after.toList.all λe=> !Region.binds .any e || V.getD e.on false:=by
 rw [Bool.eq_iff_iff,KU]
 simp only [all_eq_true,or_eq_true,not_eq_true']
 constructor
 ·intro k e he
  cases hb:binds .any e with
  |false=>exact .inl rfl
  |true=>right;rw [h.2];exact k _ ((jS _ _).2 ⟨e,he,hb,rfl⟩)
 ·intro k j hj
  obtain ⟨e,he,hb,rfl⟩:=(jS _ _).1 hj
  rcases k e he with h1 | h1
  ·rw [hb] at h1;cases h1
  ·rw [←h.2];exact h1
theorem zM {m:Nat}:∀(L:List Oper) (k:Nat),dt k (jz L) m=(range' k L.length).filter λi=> !gC m i&&((L[i-k]?).map λo=>beq (land (fF o.after.toList) m) (fF o.after.toList)).getD false
 |[],k=>by simp [dt,jz]
 |o::L,k=>by
  have ih:=zM (m:=m) L (k+1)
  have e1:((range' (k+1) L.length).filter λi=> !gC m i&&(((o::L)[i-k]?).map λo=>beq (land (fF o.after.toList) m) (fF o.after.toList)).getD false)=dt (k+1) (jz L) m:=by
   rw [ih]
   refine List.filter_congr λi hi=> ?_
   have hk:k+1≤i:=by
    obtain ⟨j,hj,rfl⟩:=List.mem_range'.1 hi
    omega
   have e2:i-k=(i-(k+1))+1:=by omega
   rw [e2,List.getElem?_cons_succ]
  rw [List.length_cons,List.range'_succ,List.filter_cons,e1,Nat.sub_self,List.getElem?_cons_zero]
  simp only [dt,jz,map_some,getD_some]
  cases gC m k<;>simp
theorem eO {m:Nat}{V:Array Bool}(h:MaskOk ops.size m V):ready .any ops V=dt 0 (jz ops.toList) m:=by
 rw [zM,ready,List.range_eq_range',Array.length_toList]
 refine List.filter_congr λi hi=> ?_
 have hlt:i<ops.size:=by
  obtain ⟨j,hj,rfl⟩:=List.mem_range'.1 hi
  omega
 have h1:V.getD i true=gC m i:=by
  rw [oZ,←h.2,getD_eq_getD_getElem?,getD_eq_getD_getElem?]
  have:i<V.size:=by rw [h.1];exact hlt
  simp [this]
 rw [h1,Nat.sub_zero]
 congr 1
 rw [getElem?_toList]
 cases ops[i]? with
 |none=>rfl
 |some o=>
  simp only [map_some,getD_some]
  rw [Ey h]
  simp
theorem pI (i:Nat)(A:List Nat):∀(l:List Edge) (k:Nat),(qc i A l).testBit k=true→∃e∈l,binds .any e=true∧(e.on=k∨(sG A (i-1-e.on)).testBit k=true)
 |[],k,h=>by simp [qc] at h
 |e::l,k,h=>by
  simp only [qc] at h
  cases hb:binds .any e with
  |true=>
   rw [hb,cond_true,lG,lG,or_eq_true,or_eq_true,o7,decide_eq_true_eq] at h
   rcases h with h | h
   ·exact ⟨e,mem_cons_self,hb,h⟩
   ·obtain ⟨e',h1,h2⟩:=pI i A l k h
    exact ⟨e',mem_cons_of_mem _ h1,h2⟩
  |false=>
   rw [hb,cond_false] at h
   obtain ⟨e',h1,h2⟩:=pI i A l k h
   exact ⟨e',mem_cons_of_mem _ h1,h2⟩
def MJ (ops:Array Oper)(j k:Nat):Prop:=∀fuel,j<fuel→anc ops fuel j k=true
theorem BU (hf:dT ops=true):∀(L:List Oper) (i:Nat) (A:List Nat),(∀j o,L[j]?=some o→ops[i+j]?=some o)→A.length=i→(∀j,j<i→∀k,(sG A (i-1-j)).testBit k=true→MJ ops j k)→
  ∀j,j<i+L.length→∀k,(sG (qV L i A) (i+L.length-1-j)).testBit k=true→MJ ops j k
 |[],i,A,_,_,h,j,hj,k,hk=>h j hj k hk
 |o::L,i,A,hL,hA,h,j,hj,k,hk=>by
  have ho:ops[i]?=some o:=by simpa using hL 0 o rfl
  simp only [qV] at hk
  have e1:i+(o::L).length=(i+1)+L.length:=by simp;omega
  rw [e1] at hk hj
  refine BU hf L (i+1) _ (λj o' h'=> ?_) (by simp [hA]) (λj hj k hk=> ?_) j hj k hk
  ·have:=hL (j+1) o' (by simpa using h')
   rw [←this];congr 1;omega
  ·by_cases hji:j=i
   ·subst hji
    rw [show j+1-1-j=0 by omega] at hk
    simp only [sG] at hk
    obtain ⟨e,he,hb,h2⟩:=pI j A _ k hk
    have hlt:=(fj hf ho).1 e (mem_toList_iff.1 he) hb
    intro fuel hfu
    cases fuel with
    |zero=>omega
    |succ f=>
     simp only [anc,ho,or_eq_true]
     rcases h2 with h2 | h2
     ·left
      exact any_eq_true.2 ⟨e,he,by rw [hb,h2,beq_refl];rfl⟩
     ·right
      exact any_eq_true.2 ⟨e,he,by rw [hb,h e.on hlt k h2 f (by omega)];rfl⟩
   ·have hji':j<i:=by omega
    rw [show i+1-1-j=(i-1-j)+1 by omega] at hk
    simp only [sG] at hk
    exact h j hji' k hk
theorem NW (hf:dT ops=true){i k:Nat}(hi:i<ops.size)(h:KT ops.size (qV ops.toList 0 []) i k=true):anc ops ops.size i k=true:=by
 unfold KT at h
 rw [oZ] at h
 have h2:=BU hf ops.toList 0 [] (λj o h=>by rw [zero_add,←getElem?_toList];exact h) rfl (λj hj=>absurd hj (Nat.not_lt_zero j)) i (by simpa using hi) k (by simpa using h)
 exact h2 _ hi
end
def Ie (P:Program):Op→Bool
 | .typeAssert .. | .move _ | .assign _ | .pick .. | .binOp .. | .unOp .. | .field .. | .fieldAddr .. | .indexAddr .. | .index .. | .slice .. | .extract .. | .build .. | .makeFunc .. | .makeInterface .. | .nilCheck _ | .sliceToArrayPointer .. =>true
 | .convert s d _=>match P.underlying s,P.underlying d with
  |some (.slice _),_=>false
  |_,some (.slice _)=>false
  |_,_=>true
 |_=>false
def isRead (P:Program):Op→Bool
 | .load .. | .lookup .. =>true
 | .convert s d _=>match P.underlying s,P.underlying d with
  |some (.slice _),some .string=>true
  |_,_=>false
 | .call c=>match c.callee with
  | .builtin .len | .builtin .cap | .builtin .min | .builtin .max=>true
  |_=>false
 |_=>false
def vQ (q:Op→Bool)(ops:Array Oper)(listed:Array Bool):List Nat→Option Nat
 |[]=>none
 |i::l=>cond (match ops[i]? with | some o=>q o.op&&free .any ops listed i | none=>false) (some i) (vQ q ops listed l)
def nW (P:Program)(ops:Array Oper):Nat→Array Bool→List Nat→Option (List (Nat × PK))
 | 0,_,_=>some []
 |n+1,listed,pend=>match ready .any ops listed with
  |[]=>some []
  |r=>match vQ (Ie P) ops listed r with
   |some i=>(nW P ops n (listed.setIfInBounds i true) pend).map ((i,.pk0):: ·)
   |none=>match vQ (isRead P) ops listed r with
    |some i=>(nW P ops n (listed.setIfInBounds i true) (i::pend)).map ((i,.pk1):: ·)
    |none=>match r with
     |[i]=>cond (pend.all λj=>anc ops ops.size i j) ((nW P ops n (listed.setIfInBounds i true) []).map ((i,.pk3):: ·)) (match ops[i]? with
      |some ⟨_,.store ..,_,_,_,_⟩=>none
      |_=>(nW P ops n (listed.setIfInBounds i true) pend).map ((i,.pk2):: ·))
     |_=>none
def iv (ops:Array Oper):List (Nat × PK)→List (Oper × PK)
 |[]=> []
 | (i,k)::l=>match ops[i]? with
  |some o=>(o,k)::iv ops l
  |none=>iv ops l
def lH (P:Program)(ops:Array Oper):Option (List (Oper × PK)):=match nW P ops ops.size (replicate ops.size false) [] with
 |some p=>cond (noSelect ops&&beq p.length ops.size&&nD ops p (replicate ops.size false)) (some (iv ops p)) none
 |none=>none
def BV (ops:Array Oper):Bool:=ops.toList.all λo=>ci o.op
inductive FK where
 |own
 |turn (pend:List Nat)
 |bar
 |late
 |box (j:Nat)
 |put (pend:List Nat)
def NX:Op→Bool
 | .store .. =>true
 |_=>false
def BW:List Nat→List Nat→Bool
 |[],[]=>true
 |a::l,b::m=>beq a b&&BW l m
 |_,_=>false
def isMkA:Op→Bool
 | .buildSlice .. =>true
 |_=>false
def Uk (P:Program)(op:Op):Bool:=Ie P op || isRead P op || isMkA op
def iw (P:Program)(T:VT):Op→Option (TV × VT)
 | .alloc t=>mq P T t
 | .makeMap t none=>lE P T t none
 | .makeSlice t (.const a) (.const b)=>nV P T t (.val a) (.val b)
 |_=>none
def qd (P:Program)(o:Oper):Bool:=(iw P ⟨[],[]⟩ o.op).isSome&&o.guard.isNone&&o.dst.isSome&&ci o.op
def nE (P:Program)(op opj:Op)(ev:Operand→TV):Option (List TV):=match op,opj with
 | .alloc t,.store _ _ x=>match P.info? t,bR (ev x) with
  |some i,some new=>bif beq i.size new.length&&new.all fQ then some new else none
  |_,_=>none
 |_,_=>none
def If (P:Program)(T:VT)(op opj:Op)(ev:Operand→TV):Option (TV × VT):=(nE P op opj ev).map λnew=>(.ptr T.objs.length 0,{T with objs:=T.objs++ [.cells new]})
def qe (P:Program)(o oj:Oper):Bool:=match o.dst,o.op,oj.op with
 |some d,.alloc t,.store t' (.tmp d') x=>beq d d' &&beq t t' &&oj.guard.isNone&&oj.dst.isNone&&(match x with
   | .tmp e=> !(beq e d)
   |_=>true)&&(match P.info? t with
   |some i=>match i.zero with
    |some z=>beq z.cells.size i.size
    |none=>false
   |none=>false)
 |_,_,_=>false
def Ez (P:Program)(ops:Array Oper)(o:Oper):List Nat→Option Nat
 |[]=>none
 |j::l=>cond (match ops[j]? with | some oj=>qe P o oj | none=>false) (some j) (Ez P ops o l)
def qf (P:Program)(ops:Array Oper):List Nat→List (Nat × Option Nat)
 |[]=> []
 |i::l=>match ops[i]? with
  |some o=>cond (qd P o) ((i,Ez P ops o (List.range ops.size))::qf P ops l) (qf P ops l)
  |none=>qf P ops l
def cg:List (Nat × Option Nat)→List Nat
 |[]=> []
 | (i,none)::l=>i::cg l
 | (i,some j)::l=>i::j::cg l
def fG:List Nat→Array Bool→Array Bool
 |[],V=>V
 |i::l,V=>fG l (V.setIfInBounds i true)
def qg (ops:Array Oper)(V:Array Bool)(j:Nat):Bool:=match ops[j]? with
 |some o=>o.after.toList.all λe=> !Region.binds .any e || V.getD e.on false
 |none=>false
def boxStore (flo:List (Nat × Option Nat))(k:Nat):Bool:=flo.any λp=>match p.2 with
 |some j=>beq j k
 |none=>false
def uy (ops:Array Oper)(flo:List (Nat × Option Nat))(V:Array Bool)(j:Nat):Bool:=match ops[j]? with
 |some o=>o.after.toList.all λe=> !Region.binds .any e || V.getD e.on false || boxStore flo e.on
 |none=>false
def nF (P:Program)(ops:Array Oper):List Nat→Option Nat
 |[]=>none
 |i::l=>cond (match ops[i]? with | some o=>Uk P o.op | none=>false) (some i) (nF P ops l)
def nX (ops:Array Oper):Bool:=(List.range ops.size).all λi=>match ops[i]? with
 |some o=>match o.dst with
  |some d=> !(inList (o.looksAt ops) d)&&(List.range ops.size).all λj=>beq j i || match ops[j]? with
   |some oj=>(match oj.dst with
     |some d'=> !(beq d' d)
     |none=>true)&&(!(inList (oj.looksAt ops) d) || oj.after.toList.any λe=>binds .any e&&beq e.on i)
   |none=>true
  |none=>true
 |none=>true
def ka (i:Nat):List Nat→List Nat
 |[]=> []
 |k::l=>bif beq k i then ka i l else k::ka i l
def cc (P:Program)(ops:Array Oper)(flo:List (Nat × Option Nat))(F:List Nat):List (Nat × FK)→Array Bool→List Nat→Bool
 |[],V,_=>(ready .any ops V).isEmpty
 | (i,.own)::l,V,pend=>inList (ready .any ops V) i&& !(inList F i)&&(match ops[i]? with | some o=>ci o.op | none=>false)&&cc P ops flo F l (V.setIfInBounds i true) (match ops[i]? with | some o=>bif isRead P o.op then i::pend else pend | none=>pend)
 | (i,.turn pe)::l,V,pend=>BW pe pend&&inList (ready .any ops V) i&& !(inList F i)&&((ready .any ops (fG F V)).all λk=>beq k i || inList F k)&&cc P ops flo F l (V.setIfInBounds i true) pend
 | (i,.put pe)::l,V,pend=>BW pe pend&&inList (ready .any ops V) i&& !(inList F i)&&((ready .any ops (fG F V)).all λk=>beq k i || inList F k)&&cc P ops flo F l (V.setIfInBounds i true) pend
 | (i,.bar)::l,V,pend=>inList (ready .any ops V) i&& !(inList F i)&&((ready .any ops (fG F V)).all λk=>beq k i || inList F k)&&(pend.all λk=>anc ops ops.size i k)&&cc P ops flo F l (V.setIfInBounds i true) []
 | (i,.late)::l,V,pend=>(flo.any λp=>beq p.1 i&&p.2.isNone)&&inList (ready .any ops V) i&&((ready .any ops (fG (ka i F) V)).all λk=>inList F k)&&cc P ops flo F l (V.setIfInBounds i true) pend
 | (i,.box j)::l,V,pend=>(flo.any λp=>beq p.1 i&&match p.2 with | some j'=>beq j' j | none=>false)&&inList (ready .any ops V) i&&qg ops (V.setIfInBounds i true) j&&((ready .any ops (fG (ka j F) V)).all λk=>inList F k)&&cc P ops flo F l ((V.setIfInBounds i true).setIfInBounds j true) pend
def Ig (P:Program)(ops:Array Oper)(flo:List (Nat × Option Nat))(F:List Nat):Bool:=flo.all λp=>match ops[p.1]? with
 |some o=>qd P o&&(match p.2 with
  |none=>true
  |some j=>match ops[j]? with
   |some oj=>qe P o oj&&(oj.after.toList.any λe=>binds .any e&&beq e.on p.1)&&(oj.after.toList.all λe=> !Region.binds .any e || beq e.on p.1 || !(inList F e.on) || boxStore flo e.on)
   |none=>false)
 |none=>false
def wV:List Nat→Bool
 |[]=>true
 |i::l=> !(inList l i)&&wV l
def uz (D:List Nat)(m j:Nat):Bool:=match D[j]? with
 |some d=>beq (land d m) d
 |none=>false
def sH (D:List Nat)(m:Nat)(r:List Nat):List (Nat × Option Nat)→Option (Nat × Option Nat)
 |[]=>none
 | (i,none)::l=>cond (inList r i) (some (i,none)) (sH D m r l)
 | (i,some j)::l=>cond (inList r i&&uz D (lor m (fE i)) j) (some (i,some j)) (sH D m r l)
def F7 (FM:Nat):List Nat→List Nat
 |[]=> []
 |i::l=>bif gC FM i then F7 FM l else i::F7 FM l
def qh (n:Nat)(A:List Nat)(i:Nat):List Nat→Bool
 |[]=>true
 |k::l=>KT n A i k&&qh n A i l
def iX (P:Program)(ops:Array Oper)(i:Nat)(pend:List Nat):List Nat:=match ops[i]? with
 |some o=>bif isRead P o.op then i::pend else pend
 |none=>pend
def nY (P:Program)(ops:Array Oper)(D A:List Nat)(flo:List (Nat × Option Nat))(FM:Nat):Nat→Nat→List Nat→List (Nat × FK)
 | 0,_,_=> []
 |n+1,m,pend=>match dt 0 D m with
  |[]=> []
  |r=>match nF P ops r with
   |some i=>(i,.own)::nY P ops D A flo FM n (lor m (fE i)) (iX P ops i pend)
   |none=>match F7 FM r with
    |[i]=>bif qh ops.size A i pend then (i,.bar)::nY P ops D A flo FM n (lor m (fE i)) [] else (i,match ops[i]? with | some o=>bif NX o.op then .put pend else .turn pend | none=>.turn pend)::nY P ops D A flo FM n (lor m (fE i)) pend
    |[]=>match sH D m r flo with
     |some (i,none)=>(i,.late)::nY P ops D A flo FM n (lor m (fE i)) pend
     |some (i,some j)=>(i,.box j)::nY P ops D A flo FM n (lor (lor m (fE i)) (fE j)) pend
     |none=> []
    |_=> []
def cT (P:Program)(ops:Array Oper)(D A:List Nat)(flo:List (Nat × Option Nat))(F:List Nat):List (Nat × FK)→Nat→List Nat→Bool
 |[],m,_=>(dt 0 D m).isEmpty
 | (i,.own)::l,m,pend=>inList (dt 0 D m) i&& !(inList F i)&&(match ops[i]? with | some o=>ci o.op | none=>false)&&cT P ops D A flo F l (lor m (fE i)) (iX P ops i pend)
 | (i,.turn pe)::l,m,pend=>BW pe pend&&inList (dt 0 D m) i&& !(inList F i)&&((dt 0 D (lor m (jA F))).all λk=>beq k i || inList F k)&&cT P ops D A flo F l (lor m (fE i)) pend
 | (i,.put pe)::l,m,pend=>BW pe pend&&inList (dt 0 D m) i&& !(inList F i)&&((dt 0 D (lor m (jA F))).all λk=>beq k i || inList F k)&&cT P ops D A flo F l (lor m (fE i)) pend
 | (i,.bar)::l,m,pend=>inList (dt 0 D m) i&& !(inList F i)&&((dt 0 D (lor m (jA F))).all λk=>beq k i || inList F k)&&qh ops.size A i pend&&cT P ops D A flo F l (lor m (fE i)) []
 | (i,.late)::l,m,pend=>(flo.any λp=>beq p.1 i&&p.2.isNone)&&inList (dt 0 D m) i&&((dt 0 D (lor m (jA (ka i F)))).all λk=>inList F k)&&cT P ops D A flo F l (lor m (fE i)) pend
 | (i,.box j)::l,m,pend=>(flo.any λp=>beq p.1 i&&match p.2 with | some j'=>beq j' j | none=>false)&&inList (dt 0 D m) i&&uz D (lor m (fE i)) j&&((dt 0 D (lor m (jA (ka j F)))).all λk=>inList F k)&&cT P ops D A flo F l (lor (lor m (fE i)) (fE j)) pend
def ge:Nat→List Oper→List (Nat × Nat)
 |_,[]=> []
 |i,o::l=>match o.dst with
  |some d=>(d,i)::ge (i+1) l
  |none=>ge (i+1) l
def sI:List (Nat × Nat)→Nat→Option Nat
 |[],_=>none
 |p::l,s=>bif beq p.1 s then some p.2 else sI l s
def qW:List (Nat × Nat)→Nat→Bool
 |[],_=>true
 |p::l,m=>bif gC m p.1 then false else qW l (lor m (fE p.1))
def qi (W:List (Nat × Nat))(d:Nat):List Nat→Bool
 |[]=>true
 |s::l=>(match sI W s with
  |some i=>gC d i
  |none=>true)&&qi W d l
def wW (ops:Array Oper)(W:List (Nat × Nat)):List Oper→Bool
 |[]=>true
 |o::l=>qi W (fF o.after.toList) (o.looksAt ops)&&wW ops W l
def F8 (ops:Array Oper):Bool:=qW (ge 0 ops.toList) 0&&wW ops (ge 0 ops.toList) ops.toList
def wX (n:Nat):List Nat→Bool
 |[]=>true
 |i::l=>ble (i+1) n&&wX n l
def EA (P:Program)(ops:Array Oper)(D A:List Nat)(flo:List (Nat × Option Nat))(F:List Nat):Option (List (Nat × FK)):=
 cond (noSelect ops&&dT ops&&F8 ops&&wV F&&wX ops.size F&&Ig P ops flo F
  &&cT P ops D A flo F (nY P ops D A flo (jA F) ops.size 0 []) 0 [])
  (some (nY P ops D A flo (jA F) ops.size 0 [])) none
def sJ (P:Program)(ops:Array Oper)(flo:List (Nat × Option Nat)):Option (List (Nat × FK)):=EA P ops (jz ops.toList) (qV ops.toList 0 []) flo (cg flo)
def MK:List (Nat × Option Nat)→List (Nat × Option Nat)
 |[]=> []
 |p::l=>(p.1,none)::MK l
def yN (P:Program)(ops:Array Oper):List (Nat × Option Nat):=bif (sJ P ops (qf P ops (List.range ops.size))).isSome then qf P ops (List.range ops.size) else MK (qf P ops (List.range ops.size))
def lI (P:Program)(ops:Array Oper):Option (List (Nat × FK)):=sJ P ops (yN P ops)
def o8 (L:List Nat):Nat→List TV→List TV
 |_,[]=> []
 |s,x::l=>(bif inList L s then x else .dead)::o8 L (s+1) l
def only (ops:Array Oper)(o:Oper)(σ:List TV):List TV:=o8 (o.looksAt ops) 0 σ
def o9 (o:Oper)(s:List TV):TV:=match o.dst with
 |some d=>s.getD d .dead
 |none=>.dead
def bP (ops:Array Oper)(σ:List TV)(o:Oper):Option Bool:=match o.guard with
 |none=>some true
 |some (j,want)=>match Bz ops σ j with
  |some (some b)=>some (bif want then b else !b)
  |some none=>some false
  |none=>none
theorem KV {ops:Array Oper}{σ:List TV}{o:Oper}{b:Bool}(h:bP ops σ o=some b):uj ops σ o=some b:=by
 unfold bP at h
 unfold uj
 split at h
 ·rename_i hg;rw [hg];exact h
 ·rename_i j want hg
  rw [hg]
  simp only
  split at h
  ·rename_i c hc;rw [hc];injection h with h;subst h;cases c<;>cases want<;>rfl
  ·rename_i hc;rw [hc];injection h with h;subst h;rfl
  ·cases h
def eX (ops:Array Oper)(o:Oper)(σ:List TV)(X:List TV→Prop):Prop:=match o.guard with
 |none=>X σ
 |some (j,_)=>match (ops[j]?).bind (·.dst) with
  |none=>X σ
  |some d=>match σ.getD d .dead with
   | .val (.bool b)=>cond b (X (σ.set d (.val (.bool true)))) (X (σ.set d (.val (.bool false))))
   |_=>X σ
theorem eD {ops:Array Oper}{o:Oper}{σ:List TV}{X:List TV→Prop}(h:eX ops o σ X):X σ:=by
 unfold eX at h
 split at h
 ·exact h
 ·split at h
  ·exact h
  ·rename_i d _
   split at h
   ·rename_i b hb
    have key:σ.set d (.val (.bool b))=σ:=by
     apply ext_getElem?
     intro i
     rw [getElem?_set]
     split
     ·rename_i e;subst e
      rw [List.getD_eq_getElem?_getD] at hb
      split
      ·rename_i hl
       rw [getElem?_eq_getElem hl] at hb ⊢
       simpa using hb.symm
      ·rename_i hl;rw [getElem?_eq_none (by omega)]
     ·rfl
    cases b with
    |true=>rw [key] at h;exact h
    |false=>rw [key] at h;exact h
   ·exact h
def aQ (_:Nat)(_:Op)(_:List TV):Prop:=False
def F9 (P:Program)(ro:Nat)(T:VT)(f:FuncId)(xs:List TV):Option (TV × VT):=match P.funcs[f]? with
 |some fn=>bif fn.body.isNone then KI P ro T fn xs else none
 |none=>none
def ic (σ:List TV):List Operand→List (Nat × TV)
 |[]=> []
 | .tmp t::l=>(t,σ.getD t .dead)::ic σ l
 |_::l=>ic σ l
def eF:List (Nat × TV)→Nat→TV
 |[],_=>.dead
 | (t,x)::l,s=>bif beq t s then x else eF l s
def aA (G:aP)(l:List (Nat × TV)):Operand→TV
 | .tmp t=>eF l t
 |x=>bb G [] x
abbrev gD:=Oper→List TV→VT→Option (TV × Option VT)
def aR:gD:=λ_ _ _=>none
def qj (P:Program)(T0:VT)(ph:Bool)(op:Op)(ev:Operand→TV):Option TV:=match aW P op ev with
 |some x=>some x
 |none=>bif ph then BL P T0 op ev else aY P T0 op ev
inductive aS (P:Program) (G:aP) (op:Op) (l:List (Nat × TV)) (y:TV):Prop
 |mk (h:aW P op (aA G l)=some y)
inductive mh (P:Program) (G:aP) (T0:VT) (ph:Bool) (op:Op) (l:List (Nat × TV)) (y:TV):Prop
 |mk (h:qj P T0 ph op (aA G l)=some y)
inductive bp (P:Program) (G:aP) (ro:Nat) (T:VT) (op:Op) (l:List (Nat × TV)) (y:TV) (T':VT):Prop
 |mk (h:dZ P ro T op (aA G l)=some (y,T'))
 |old (hf:oT ro op (aA G l)=true) (h:uY P T op (aA G l)=some (y,T'))
 |ent (it:Operand) (ho:op=.entry it) (ht:T'=T) (h:qa T (aA G l it)=some y)
inductive Ul (P:Program) (T0:VT) (s d:TypeId) (x y:TV):Prop
 |mk (h0:cL x=none) (h:gA P T0 s d x=some y)
inductive Um (P:Program) (T0:VT) (t:TypeId) (m k:TV) (ok:Bool) (y:TV):Prop
 |mk (h:fA P T0 t m k ok=some y)
abbrev gE:=Nat→FuncId→List TV→VT→(TV→VT→Prop)→Prop
abbrev iY:=Nat→Nat→List TV→VT→(TV→VT→Prop)→Prop
section
variable (P:Program)(G:aP)(F:gD)(call:gE)(rnd:iY)
def BX (ro:Nat)(o:Oper)(σ:List TV)(T:VT)(K:List TV→VT→Prop):Prop:=match o.op with
 | .next it false=>match sD T (bb G σ it) with
  |some (i,l)=>cond (ble ro i) (BS (λp=>K (bv σ o.dst p.1) p.2) l) (aQ 3 o.op [])
  |none=>aQ 2 o.op [bb G σ it]
 | .entry it=>match qa T (bb G σ it) with
  |some y=>K (bv σ o.dst y) T
  |none=>aQ 2 o.op [bb G σ it]
 | .range t x=>match BQ P T t (bb G σ x) with
  |some (y,T')=>K (bv σ o.dst y) T'
  |none=>aQ 2 o.op [bb G σ x]
 | .binOp op t x y ty=>cond (A5 P op t (bb G σ x) (bb G σ y)) (K (bv σ o.dst (.val (.bool true))) T∧K (bv σ o.dst (.val (.bool false))) T) (match dZ P ro T (.binOp op t x y ty) (bb G σ) with
  |some (y,T')=>K (bv σ o.dst y) T'
  |none=>aQ 2 o.op [bb G σ x,bb G σ y])
 |op=>match dZ P ro T op (bb G σ) with
  |some (y,T')=>K (bv σ o.dst y) T'
  |none=>aQ 2 op (op.operands.toList.map (bb G σ))
def BY (ro:Nat)(o:Oper)(σ:List TV)(T:VT)(K:List TV→VT→Prop):Prop:=match F o (o.op.operands.toList.map (bb G σ)) T with
 |some (y,none)=>aS P G o.op (ic σ o.op.operands.toList) y∧K (bv σ o.dst y) T
 |some (y,some T')=>bp P G ro T o.op (ic σ o.op.operands.toList) y T'∧K (bv σ o.dst y) T'
 |none=>BX P G ro o σ T K
def i6 (ro:Nat)(o:Oper)(σ:List TV)(T:VT)(K:List TV→VT→Prop):Prop:=match o.op with
 | .call ⟨.value fo,args,_⟩=>match bb G σ fo with
  | .fn (.func f) fi ca=>match F9 P ro T f (fi++args.toList.map (bb G σ)++ca) with
   |some (y,T')=>K (bv σ o.dst y) T'
   |none=>call ro f (fi++args.toList.map (bb G σ)++ca) T λx T'=>K (bv σ o.dst x) T'
  | .yld id=>rnd ro id (args.toList.map (bb G σ)) T λx T'=>K (bv σ o.dst x) T'
  |x=>aQ 1 o.op [x]
 |_=>BY P G F ro o σ T K
def qX (ro:Nat)(ops:Array Oper):List Oper→List TV→VT→(List TV→VT→Prop)→Prop
 |[],σ,T,K=>K σ T
 |o::l,σ,T,K=>eX ops o σ λσ=>match bP ops σ o with
  |some b=>cond b (i6 P G F call rnd ro o σ T λσ' T'=>qX ro ops l σ' T' K) (qX ro ops l (bv σ o.dst (.val undef)) T K)
  |none=>aQ 4 o.op []
def eI (ro:Nat)(ops:Array Oper):VT→Bool→List (Oper × PK)→List TV→VT→(List TV→VT→Prop)→Prop
 |_,_,[],σ,T,K=>K σ T
 |T0,ph,(o,.pk0)::l,σ,T,K=>eX ops o σ λσ=>match bP ops σ o with
  |some b=>cond b (match F o (o.op.operands.toList.map (bb G σ)) T with
   |some (y,none)=>aS P G o.op (ic σ o.op.operands.toList) y∧eI ro ops T0 ph l (bv σ o.dst y) T K
   |some (_,some _)=>aQ 27 o.op []
   |none=>match aW P o.op (bb G σ) with
    |some x=>eI ro ops T0 ph l (bv σ o.dst x) T K
    |none=>aQ 5 o.op (o.op.operands.toList.map (bb G σ))) (eI ro ops T0 ph l (bv σ o.dst (.val undef)) T K)
  |none=>aQ 4 o.op []
 |T0,ph,(o,.pk1)::l,σ,T,K=>eX ops o σ λσ=>match bP ops σ o with
  |some b=>cond b (match F o (o.op.operands.toList.map (bb G σ)) T with
   |some (y,none)=>mh P G T0 ph o.op (ic σ o.op.operands.toList) y∧eI ro ops T0 ph l (bv σ o.dst y) T K
   |some (_,some _)=>aQ 27 o.op []
   |none=>match qj P T0 ph o.op (bb G σ) with
    |some x=>eI ro ops T0 ph l (bv σ o.dst x) T K
    |none=>aQ 5 o.op (o.op.operands.toList.map (bb G σ))) (eI ro ops T0 ph l (bv σ o.dst (.val undef)) T K)
  |none=>aQ 4 o.op []
 |T0,_,(o,.pk2)::l,σ,T,K=>eX ops o σ λσ=>match bP ops σ o with
  |some b=>cond b (i6 P G F call rnd T0.objs.length o σ T λσ' T'=>eI ro ops T0 true l σ' T' K) (eI ro ops T0 true l (bv σ o.dst (.val undef)) T K)
  |none=>aQ 4 o.op []
 |_,_,(o,.pk3)::l,σ,T,K=>eX ops o σ λσ=>match bP ops σ o with
  |some b=>cond b (i6 P G F call rnd ro o σ T λσ' T'=>eI ro ops T' false l σ' T' K) (eI ro ops T false l (bv σ o.dst (.val undef)) T K)
  |none=>aQ 4 o.op []
def wY (P:Program)(ro:Nat)(T:VT)(t:TypeId)(a x:TV):Option VT:=match nC P ro T t a x with
 |some (_,T')=>some T'
 |none=>match a with
  | .ptr id off=>bif ble ro id then (kU P T t (.ptr id off) x).map (·.2) else none
  |_=>none
def apartRead (P:Program)(id off n:Nat)(op:Op)(ev:Operand→TV):Bool:=match op with
 | .load t a=>match ev a with
  | .ptr id' off'=> !(beq id' id) || (match P.info? t with
   |some i=>ble (off' +max i.size 1) off || ble (off+n) off'
   |none=>false)
  | .elt _=>true
  |_=>false
 | .lookup _ m _ _=>match ev m with
  | .map id'=> !(beq id' id)
  |_=>false
 | .call c=>match c.callee,c.args.toList with
  | .builtin .len,[x]=>(match ev x with
   | .map id'=> !(beq id' id)
   |_=>false)
  |_,_=>false
 |_=>false
def VT.takeO (T:VT)(n:Nat):VT:={T with objs:=T.objs.take n}
def A6 (P:Program)(G:aP)(T0:VT)(o:Oper)(s:List TV)(y:TV):Prop:=match o.op with
 | .convert t d x=>bif isRead P (.convert t d x) then Ul P T0 t d (bb G s x) y else aS P G o.op (ic s o.op.operands.toList) y
 | .lookup t m k ok=>Um P T0 t (bb G s m) (bb G s k) ok y
 |_=>aS P G o.op (ic s o.op.operands.toList) y
def A7 (P:Program)(T0:VT)(op:Op)(ev:Operand→TV):Option TV:=match aW P op ev with
 |some x=>some x
 |none=>match (bif isRead P op then aY P T0 op ev else none) with
  |some x=>some x
  |none=>match op with
   | .buildSlice t n ps=>(jZ P ⟨[],[]⟩ (.buildSlice t n ps) ev).map (·.1)
   |_=>none
def dr (ops:Array Oper)(flo:List (Nat × Option Nat))(V:Array Bool)(σ:List TV):List (Nat × Option Nat)→Bool
 |[]=>true
 | (_,none)::l=>dr ops flo V σ l
 | (i,some j)::l=>(V.getD i false || !(uy ops flo (V.setIfInBounds i true) j) || (match ops[i]?,ops[j]? with
  |some o,some oj=>(nE P o.op oj.op (bb G (only ops oj σ))).isSome&&(match o.dst with
   |some d=>ble (d+1) σ.length
   |none=>false)
  |_,_=>false))&&dr ops flo V σ l
def pc (ops:Array Oper)(id off n:Nat)(σ:List TV):List Nat→Bool
 |[]=>true
 |k::l=>(match ops[k]? with
  |some o=>(match bP ops (only ops o σ) o with
   |some true=>(aW P o.op (bb G (only ops o σ))).isSome || apartRead P id off n o.op (bb G (only ops o σ))
   |some false=>true
   |none=>false)
  |none=>false)&&pc ops id off n σ l
def qY (ops:Array Oper)(T0 T1:VT)(σ:List TV):List Nat→Bool
 |[]=>true
 |k::l=>(match ops[k]? with
  |some o=>(match bP ops (only ops o σ) o with
   |some true=>(aW P o.op (bb G (only ops o σ))).isSome || (match aY P T0 o.op (bb G (only ops o σ)),aY P T1 o.op (bb G (only ops o σ)) with
    |some x,some y=>iW x y
    |none,_=>true
    |_,none=>false)
   |some false=>true
   |none=>false)
  |none=>false)&&qY ops T0 T1 σ l
def nZ (ops:Array Oper)(T0 T1:VT)(σ:List TV):List Nat→Prop
 |[]=>True
 |k::l=>(match ops[k]? with
  |some o=>(match bP ops (only ops o σ) o with
   |some true=>cond (aW P o.op (bb G (only ops o σ))).isSome True (aY P T0 o.op (bb G (only ops o σ))=aY P T1 o.op (bb G (only ops o σ)))
   |some false=>True
   |none=>False)
  |none=>False)∧nZ ops T0 T1 σ l
def VM:Bool:=(F ⟨some 999998,.move (.tmp 0),0, "",#[],none⟩ [] ⟨[],[]⟩).isSome
def cG (ro:Nat)(ops:Array Oper)(flo:List (Nat × Option Nat)):Array Bool→VT→List (Nat × FK)→List TV→VT→(List TV→VT→Prop)→Prop
 |_,_,[],σ,T,K=>K σ T
 |V,T0,(i,.own)::l,σ,T,K=>match ops[i]? with
  |some o=>eX ops o σ λσ=>match bP ops (only ops o σ) o with
   |some b=>cond b (match F o (o.op.operands.toList.map (bb G σ)) T with
    |some (y,none)=>A6 P G T0 o (only ops o σ) y∧cG ro ops flo (V.setIfInBounds i true) T0 l (bv σ o.dst y) T K
    |some (_,some _)=>aQ 27 o.op []
    |none=>match A7 P T0 o.op (bb G (only ops o σ)) with
     |some y=>cG ro ops flo (V.setIfInBounds i true) T0 l (bv σ o.dst y) T K
     |none=>aQ 5 o.op (o.op.operands.toList.map (bb G σ))) (cG ro ops flo (V.setIfInBounds i true) T0 l (bv σ o.dst (.val undef)) T K)
   |none=>aQ 4 o.op []
  |none=>aQ 4 default []
 |V,T0,(i,.turn pe)::l,σ,T,K=>match ops[i]? with
  |some o=>eX ops o σ λσ=>match bP ops (only ops o σ) o with
   |some b=>cond (dr P G ops flo V σ flo) (cond b (i6 P G F call rnd ro o (only ops o σ) T λs T'=>cond (VM F) (nZ P G ops T0 (T'.takeO T0.objs.length) σ pe∧cG ro ops flo (V.setIfInBounds i true) (T'.takeO T0.objs.length) l (bv σ o.dst (o9 o s)) T' K) (cond (qY P G ops T0 (T'.takeO T0.objs.length) σ pe) (cG ro ops flo (V.setIfInBounds i true) (T'.takeO T0.objs.length) l (bv σ o.dst (o9 o s)) T' K) (aQ 30 o.op []))) (cG ro ops flo (V.setIfInBounds i true) (T.takeO T0.objs.length) l (bv σ o.dst (.val undef)) T K)) (aQ 28 o.op [])
   |none=>aQ 4 o.op []
  |none=>aQ 4 default []
 |V,T0,(i,.put pe)::l,σ,T,K=>match ops[i]? with
  |some o=>eX ops o σ λσ=>match bP ops (only ops o σ) o with
   |some b=>cond (dr P G ops flo V σ flo) (cond b (match o.op with
    | .store t a x=>(match bb G (only ops o σ) a,bR (bb G (only ops o σ) x) with
     | .ptr id off,some new=>(match wY P ro T t (.ptr id off) (bb G (only ops o σ) x) with
      |some T'=>cond (pc P G ops id off new.length σ pe) (cG ro ops flo (V.setIfInBounds i true) (T'.takeO T0.objs.length) l (bv σ o.dst (o9 o (bv (only ops o σ) o.dst (.val undef)))) T' K) (aQ 29 o.op [bb G σ a])
      |none=>aQ 2 o.op [bb G σ a,bb G σ x])
     |_,_=>aQ 2 o.op [bb G σ a,bb G σ x])
    |_=>aQ 4 o.op []) (cG ro ops flo (V.setIfInBounds i true) (T.takeO T0.objs.length) l (bv σ o.dst (.val undef)) T K)) (aQ 28 o.op [])
   |none=>aQ 4 o.op []
  |none=>aQ 4 default []
 |V,_,(i,.bar)::l,σ,T,K=>match ops[i]? with
  |some o=>eX ops o σ λσ=>match bP ops (only ops o σ) o with
   |some b=>cond (dr P G ops flo V σ flo) (cond b (i6 P G F call rnd ro o (only ops o σ) T λs T'=>cG ro ops flo (V.setIfInBounds i true) T' l (bv σ o.dst (o9 o s)) T' K) (cG ro ops flo (V.setIfInBounds i true) T l (bv σ o.dst (.val undef)) T K)) (aQ 28 o.op [])
   |none=>aQ 4 o.op []
  |none=>aQ 4 default []
 |V,T0,(i,.late)::l,σ,T,K=>match ops[i]? with
  |some o=>match iw P T o.op with
   |some (y,T')=>cond (dr P G ops flo V σ flo) (cG ro ops flo (V.setIfInBounds i true) T0 l (bv σ o.dst y) T' K) (aQ 28 o.op [])
   |none=>aQ 2 o.op []
  |none=>aQ 4 default []
 |V,T0,(i,.box j)::l,σ,T,K=>match ops[i]?,ops[j]? with
  |some o,some oj=>match If P T o.op oj.op (bb G (only ops oj σ)) with
   |some (y,T')=>cond (dr P G ops flo V σ flo) (cG ro ops flo ((V.setIfInBounds i true).setIfInBounds j true) T0 l (bv σ o.dst y) T' K) (aQ 28 o.op [])
   |none=>aQ 2 o.op []
  |_,_=>aQ 4 default []
def Ga:List (Oper × PK)→Bool
 |[]=>false
 | (_,.pk2)::_=>true
 |_::l=>Ga l
def yO (ops:Array Oper):Option (List (Oper × PK)):=match lH P ops with
 |some p=>cond (Ga p&&(lI P ops).isSome) none (some p)
 |none=>none
def yP (ops:Array Oper):Option (List (Oper × PK)):=bif (F ⟨some 999999,.move (.tmp 0),0, "",#[],none⟩ [] ⟨[],[]⟩).isSome then lH P ops else bif ble ops.size 12 then yO P ops else none
def KW:List Nat→(Nat→Prop)→Prop
 |[],_=>True
 |i::l,p=>p i∧KW l p
def ML (ops:Array Oper)(i:Nat)(pend:List Nat):Bool:=pend.all λk=>anc ops ops.size i k
def kb (ro:Nat)(ops:Array Oper):Nat→Array Bool→VT→List Nat→List TV→VT→(List TV→VT→Prop)→Prop
 | 0,V,_,_,σ,T,K=>match ready .any ops V with
  |[]=>K σ T
  |_=>aQ 31 default []
 |n+1,V,T0,pend,σ,T,K=>match ready .any ops V with
  |[]=>K σ T
  |i0::r0=>match nF P ops (i0::r0) with
   |some i=>match ops[i]? with
    |some o=>eX ops o σ λσ=>match bP ops (only ops o σ) o with
     |some b=>cond b (match F o (o.op.operands.toList.map (bb G σ)) T with
      |some (y,none)=>A6 P G T0 o (only ops o σ) y∧kb ro ops n (V.setIfInBounds i true) T0 (iX P ops i pend) (bv σ o.dst y) T K
      |some (_,some _)=>aQ 27 o.op []
      |none=>match A7 P T0 o.op (bb G (only ops o σ)) with
       |some y=>kb ro ops n (V.setIfInBounds i true) T0 (iX P ops i pend) (bv σ o.dst y) T K
       |none=>aQ 5 o.op (o.op.operands.toList.map (bb G σ))) (kb ro ops n (V.setIfInBounds i true) T0 (iX P ops i pend) (bv σ o.dst (.val undef)) T K)
     |none=>aQ 4 o.op []
    |none=>aQ 4 default []
   |none=>KW (i0::r0) λi=>match ops[i]? with
    |some o=>eX ops o σ λσ=>match bP ops (only ops o σ) o with
     |some b=>cond (ML ops i pend)
      (cond b (i6 P G F call rnd ro o (only ops o σ) T λs T'=>kb ro ops n (V.setIfInBounds i true) T' [] (bv σ o.dst (o9 o s)) T' K) (kb ro ops n (V.setIfInBounds i true) T [] (bv σ o.dst (.val undef)) T K))
      (cond b (i6 P G F call rnd ro o (only ops o σ) T λs T'=>nZ P G ops T0 (T'.takeO T0.objs.length) σ pend∧kb ro ops n (V.setIfInBounds i true) (T'.takeO T0.objs.length) pend (bv σ o.dst (o9 o s)) T' K) (kb ro ops n (V.setIfInBounds i true) (T.takeO T0.objs.length) pend (bv σ o.dst (.val undef)) T K))
     |none=>aQ 4 o.op []
    |none=>aQ 4 default []
def mj (ops:Array Oper)(t:Oper):Bool:=t.guard.isNone&&(t.after.toList.all λe=> !Region.binds .any e || Nat.blt e.on ops.size)&&(List.range ops.size).all λj=>t.after.toList.any λe=>binds .any e&&(beq e.on j || anc ops ops.size e.on j)
def BZ (ro:Nat)(ops:Array Oper)(σ:List TV)(T:VT)(K:List TV→VT→Prop):Prop:=match ops.toList.reverse with
 |t2::t1::l=>cond (mj l.reverse.toArray t1&&mj (l.reverse.toArray.push t1) t2&&dT (l.reverse.toArray.push t1)&&dT l.reverse.toArray&&nX l.reverse.toArray)
  (kb P G F call rnd ro l.reverse.toArray l.reverse.toArray.size (replicate l.reverse.toArray.size false) T [] σ T λσ T=>i6 P G F call rnd ro t1 σ T λσ T=>i6 P G F call rnd ro t2 σ T K)
  (aQ 6 (ops.toList.getLastD default).op [])
 |_=>aQ 6 (ops.toList.getLastD default).op []
def Gb (ro:Nat)(ops:Array Oper)(σ:List TV)(T:VT)(K:List TV→VT→Prop):Prop:=cond (BV ops) (match yP P F ops with
 |some p=>eI P G F call rnd ro ops T false p σ T K
 |none=>match lI P ops with
  |some p=>cG P G F call rnd (min ro T.objs.length) ops (yN P ops) (replicate ops.size false) T p σ T K
  |none=>match lH P ops with
   |some p=>eI P G F call rnd ro ops T false p σ T K
   |none=>match ops.toList.getLast?,lI P ops.toList.dropLast.toArray with
    |some t,some p=>cond (mj ops.toList.dropLast.toArray t)
      (cG P G F call rnd (min ro T.objs.length) ops.toList.dropLast.toArray (yN P ops.toList.dropLast.toArray) (replicate ops.toList.dropLast.toArray.size false) T p σ T λσ' T'=>i6 P G F call rnd (min ro T.objs.length) t σ' T' K) (aQ 16 t.op [])
    |_,_=>BZ P G F call rnd (min ro T.objs.length) ops σ T K) (aQ 15 default σ)
end
abbrev be:=Nat→List TV→VT→(TV→VT→Prop)→Prop
abbrev bW:=Option Nat→Nat→List TV→VT→List Nat→KX→Prop
def qZ (k:List TV→VT→List Nat→Prop)(K:KX):KX
 | .normal,σ,T,D=>k σ T D
 |e,σ,T,D=>K e σ T D
def sK (id:Nat)(K:KX):KX
 | .exit id',σ,T,D=>cond (beq id' id) (K .normal σ T D) (K (.exit id') σ T D)
 |e,σ,T,D=>K e σ T D
def Ih (K:KX):KX
 | .goto _,σ,_,_=>aQ 8 default σ
 |e,σ,T,D=>K e σ T D
def qk (ro:Nat):List Nat→VT→Option VT
 |[],T=>some T
 |id::D,T=>match T.objs[id]? with
  |some .defd=>bif ble ro id then qk ro D (T.kill id) else none
  |_=>none
def wZ (P:Program)(fn:Func)(ro:Nat)(σ:List TV)(T:VT)(D:List Nat)(K:TV→VT→Prop):Prop:=match qk ro D T with
 |some T'=>match nS P T' σ fn.results with
  |some x=>K x T'
  |none=>aQ 7 default σ
 |none=>aQ 16 default σ
def A8 (P:Program)(fn:Func)(ro:Nat)(K:TV→VT→Prop):KX
 | .normal,σ,T,D=>wZ P fn ro σ T D K
 | .ret,σ,T,D=>wZ P fn ro σ T D K
 |_,σ,_,_=>aQ 9 default σ
def w5 (fn:Func)(xs:List TV):List TV:=xs++List.replicate (fn.ntmps-xs.length) (.val undef)
abbrev yQ:=Option Nat→Nat→Code→List TV→VT→List Nat→KX→Prop
def kC (P:Program)(C:FuncId→Option be)(run:yQ):gE:=λro f xs T K=>match P.funcs[f]? with
 |some fn=>match fn.body with
  |some c=>match C f with
   |some W=>W ro xs T K
   |none=>run none ro c (w5 fn xs) T [] (A8 P fn ro K)
  |none=>aQ 10 default [.val (.int .i64 f)]
 |none=>aQ 11 default [.val (.int .i64 f)]
def VT.setLoop (T:VT)(id:Nat)(st:LoopState)(pend:Option Code)(σ:List TV)(ps:Array Tmp)(asg body:Code):VT:={T with objs:=T.objs.set id (.loop st pend σ ps asg body)}
def nG:List Tmp→List TV→List TV→List TV
 |p::ps,x::xs,σ=>nG ps xs (σ.set p x)
 |_,_,σ=>σ
def kD (ro id:Nat)(st:LoopState)(pend:Option Code)(T:VT)(K:VT→Prop):Prop:=match T.objs[id]? with
 |some (.loop _ _ σ ps asg body)=>cond (ble ro id) (K (T.setLoop id st pend σ ps asg body)) (aQ 17 default [])
 |_=>aQ 18 default []
def Ii (ro id:Nat)(K:TV→VT→Prop):KX
 | .normal,_,T,_=>kD ro id .ready none T λT=>K (.val (.bool true)) T
 | .ret,_,T,_=>kD ro id .done (some .ret) T λT=>K (.val (.bool false)) T
 | .exit x,_,T,_=>kD ro id .done (some (.exit x)) T λT=>K (.val (.bool false)) T
 |_,σ,_,_=>aQ 19 default σ
def ql (run:yQ):iY:=λro id xs T K=>match T.objs[id]? with
 |some (.loop .ready none σ ps asg body)=>cond (ble ro id&&beq ps.size xs.length) (run (some id) ro asg (nG ps.toList xs σ) T [] λe σ1 T1 D1=>match e with
  | .normal=>match T1.objs[id]? with
   |some (.loop .ready none σ' ps' asg' body')=>run (some id) ro body σ1 (T1.setLoop id .busy none σ' ps' asg' body') D1 (Ii ro id K)
   |_=>aQ 20 default σ1
  |_=>aQ 21 default σ1) (aQ 22 default xs)
 |_=>aQ 23 default xs
def i7 (ro id:Nat)(σ:List TV)(D:List Nat)(K:KX)(T:VT):Prop:=match T.objs[id]? with
 |some (.loop .ready none σ' ps asg body)=>cond (ble ro id) (K .normal σ (T.setLoop id .exhausted none σ' ps asg body) D) (aQ 17 default [])
 |some (.loop .done (some .ret) σ' ps asg body)=>cond (ble ro id) (K .ret σ (T.setLoop id .exhausted (some .ret) σ' ps asg body) D) (aQ 17 default [])
 |some (.loop .done (some (.exit x)) σ' ps asg body)=>cond (ble ro id) (K (.exit x) σ (T.setLoop id .exhausted (some (.exit x)) σ' ps asg body) D) (aQ 17 default [])
 |_=>aQ 24 default σ
def vx (P:Program)(G:aP)(C:FuncId→Option be)(F:gD):Nat→(Nat→Option (bW × Code))→yQ
 | 0,_,_,_,_,σ,_,_,_=>aQ 12 default σ
 |n+1,L,rd,ro,c,σ,T,D,K=>match c with
  | .skip=>K .normal σ T D
  | .exit id=>K (.exit id) σ T D
  | .ret=>K .ret σ T D
  | .seq a b=>vx P G C F n L rd ro a σ T D (qZ (λσ T D=>vx P G C F n L rd ro b σ T D K) K)
  | .cond c x y=>match bb G σ c with
   | .val (.bool b)=>cond b (vx P G C F n L rd ro x σ T D K) (vx P G C F n L rd ro y σ T D K)
   |x=>aQ 13 default [x]
  | .block id c=>match L id with
   |some (W,c')=>c'=.block id c∧W rd ro σ T D K
   |none=>vx P G C F n L rd ro c σ T D (sK id K)
  | .scope c=>vx P G C F n L rd ro c σ T D (Ih K)
  | .loop c=>vx P G C F n L rd ro c σ T D (qZ (λσ T D=>vx P G C F n L rd ro (.loop c) σ T D K) K)
  | .region id ops d=>match L (1000000+id) with
   |some (W,c')=>c'=.region id ops d∧W rd ro σ T D K
   |none=>cond d (Gb P G F (kC P C (vx P G C aR n λ_=>none)) (ql (vx P G C aR n λ_=>none)) ro ops σ T λσ T=>K .normal σ T D)
    (qX P G F (kC P C (vx P G C aR n λ_=>none)) (ql (vx P G C aR n λ_=>none)) ro ops ops.toList σ T λσ T=>K .normal σ T D)
  | .rangeFunc f ps asg body=>match bb G σ f with
   | .fn (.func fi) first ca=>match rd with
    |none=>kC P C (vx P G C aR n λ_=>none) ro fi (first++ [.yld (T.objs.length+1)]++ca) {T with objs:=T.objs++ [.defd]++ [.loop .ready none σ ps asg body]} λ_ T'=>i7 ro (T.objs.length+1) σ (T.objs.length::D) K T'
    |some i0=>match T.objs[i0]? with
     |some (.loop ..)=>kC P C (vx P G C aR n λ_=>none) ro fi (first++ [.yld T.objs.length]++ca) {T with objs:=T.objs++ [.loop .ready none σ ps asg body]} λ_ T'=>i7 ro T.objs.length σ D K T'
     |_=>aQ 26 default σ
   |x=>aQ 25 default [x]
  | .label _=>K .normal σ T D
  |_=>aQ 14 default σ
def Gc (P:Program)(G:aP)(C:FuncId→Option be)(n:Nat)(L:Nat→Option (bW × Code))(ro:Nat)(f:FuncId)(xs:List TV)(T:VT)(K:TV→VT→Prop):Prop:=match P.funcs[f]? with
 |some fn=>match fn.body with
  |some c=>vx P G C aR n L none ro c (w5 fn xs) T [] (A8 P fn ro K)
  |none=>False
 |none=>False
def ax (P:Program)(G:aP)(C:FuncId→Option be)(F:gD)(n:Nat)(L:Nat→Option (bW × Code))(ro:Nat)(f:FuncId)(xs:List TV)(T:VT)(K:TV→VT→Prop):Prop:=match P.funcs[f]? with
 |some fn=>match fn.body with
  |some c=>vx P G C F n L none ro c (w5 fn xs) T [] (A8 P fn ro K)
  |none=>False
 |none=>False
section
variable {P:Program}{G:aP}{F:gD}
def fH (P:Program)(G:aP)(call:gE):Prop:=∀ro f xs T K,call ro f xs T K→∃fn,P.funcs[f]?=some fn∧fn.body.isSome=true∧(fn.name== "runtime.NumGoroutine")=false∧VCx P G ro f xs T K
def gF (P:Program)(G:aP)(rnd:iY):Prop:=∀ro id xs T K,rnd ro id xs T K→Vk P G ro id xs T K
theorem VPi.of {ro:Nat}{o:Oper}{σ:List TV}{T:VT}{K:List TV→VT→Prop}(hd:ci o.op=true)
  (h:∀g w ρ,RW g T w→(∀x,VR g w (bb G σ x) (ρ x))→∃m v g' w' y T',(execOp ρ o).run P w=.ok m w'∧iu m=some v∧K (bv σ o.dst y) T'∧VR g' w' y v∧Evo g w g' w'∧RW g' T' w'∧Fix ro g T w T' w'):VPi P G ro o σ T K:=by
 refine VPx.toI ?_ hd
 intro g w a next Q r hG hσ hn
 obtain ⟨m,v,g',w',y,T',h1,h2,hk,h3,h4,h5,h6⟩:=h g w a.eval r (eW hG hσ)
 unfold wp
 rw [h1]
 have e:∀v',VR g' w' y v'→next (a.put o.dst v') w':=λv' hv=>hn _ _ g' w' _ ⟨v',rfl⟩ hk h4 h5 (gz (hσ.mono h4) o.dst hv) (cp _ _ _) h6
 cases m<;>simp only [iu] at h2<;>try (cases h2)
 ·exact e v h3
 ·exact e undef h3
theorem mu {g:Gh}{w:World}{σ:List TV}{ρ:Operand→Value}(hρ:∀x,VR g w (bb G σ x) (ρ x)):∀(l:List Operand) (t:Nat),VR g w (eF (ic σ l) t) (ρ (.tmp t))
 |[],t=>.dead _
 | .tmp s::l,t=>by
  simp only [ic,eF]
  cases hb:beq s t with
  |true=>
   have:=eq_of_beq_eq_true hb
   subst this
   exact hρ (.tmp s)
  |false=>exact mu hρ l t
 | .const v::l,t=>mu hρ l t
 | .global n::l,t=>mu hρ l t
 | .func f::l,t=>mu hρ l t
theorem lJ {g:Gh}{w:World}{σ:List TV}{ρ:Operand→Value}(hρ:∀x,VR g w (bb G σ x) (ρ x))(l:List Operand)(x:Operand):VR g w (aA G (ic σ l) x) (ρ x):=by
 cases x with
 |tmp t=>exact mu hρ l t
 |const v=>exact hρ (.const v)
 |global n=>exact hρ (.global n)
 |func f=>exact hρ (.func f)
theorem NY {ro:Nat}{o:Oper}{σ:List TV}{T:VT}{K:List TV→VT→Prop}(h:BX P G ro o σ T K):VPi P G ro o σ T K:=by
 obtain ⟨dst,op,ty,pos,af,gd⟩:=o
 have gen:(match dZ P ro T op (bb G σ) with
   |some (y,T')=>K (bv σ dst y) T'
   |none=>aQ 2 op (op.operands.toList.map (bb G σ)))→ci op=true→VPi P G ro ⟨dst,op,ty,pos,af,gd⟩ σ T K:=by
  intro h hd
  split at h
  ·rename_i y T' hy
   refine VPi.of hd λg w ρ r hρ=> ?_
   obtain ⟨m,v,g',w',h1,h2,h3,h4,h5,h6⟩:=Ev (o:=⟨dst,op,ty,pos,af,gd⟩) r hy hρ
   exact ⟨m,v,g',w',y,T',h1,h2,h,h3,h4,h5,h6⟩
  ·exact h.elim
 unfold BX at h
 simp only at h
 cases op
 case next it isS=>
  cases isS with
  |true=>exact gen h rfl
  |false=>
   simp only at h
   split at h
   ·rename_i i l hl
    cases hr:ble ro i with
    |false=>rw [hr] at h;exact h.elim
    |true=>
     rw [hr] at h
     simp only [cond_true] at h
     refine VPi.of rfl λg w ρ r hρ=> ?_
     obtain ⟨p,hp,v,g',w',h1,h2,h3,h4,h5⟩:=Id (P:=P) (ty:=ty) r hl (hρ it) (le_of_ble_eq_true hr)
     exact ⟨.value v,v,g',w',p.1,p.2,by simp [execOp,h1],rfl,Ew h p hp,h2,h3,h4,h5⟩
   ·exact h.elim
 case entry it=>
  simp only at h
  split at h
  ·rename_i y hy
   refine VPi.of rfl λg w ρ r hρ=> ?_
   obtain ⟨v,h1,h2⟩:=zL (P:=P) r hy (hρ it)
   exact ⟨.value v,v,g,w,y,T,by simp [execOp,h2],rfl,h,h1,Evo.refl _ _,r,Fix.refl _ _ _ _⟩
  ·exact h.elim
 case binOp op t x y' ty'=>
  simp only at h
  cases hb:A5 P op t (bb G σ x) (bb G σ y') with
  |false=>
   rw [hb] at h
   simp only [cond_false] at h
   refine gen ?_ rfl
   split at h
   ·rename_i y T' hy;first | exact h | (rw [hy];exact h)
   ·exact h.elim
  |true=>
   rw [hb] at h
   refine VPi.of rfl λg w ρ r hρ=> ?_
   obtain ⟨b,hrun⟩:=KM (P:=P) (xo:=x) (yo:=y') hb (hρ x) (hρ y')
   have hl:Looks0 P g w (do eqGuard op t x y' (ρ x) (ρ y');binOp op t (ρ x) (ρ y')) (.val (.bool b)):=.of_ok (.val _) hrun
   obtain ⟨v,h1,h2⟩:=hl.next (n:=execOp ρ ⟨dst,.binOp op t x y' ty',ty,pos,af,gd⟩) rfl
   refine ⟨.value v,v,g,w,.val (.bool b),T,h2 w,rfl,?_,h1,Evo.refl _ _,r,Fix.refl _ _ _ _⟩
   cases b
   ·exact h.2
   ·exact h.1
 case range t x=>
  simp only at h
  split at h
  ·rename_i y T' hy
   refine VPi.of rfl λg w ρ r hρ=> ?_
   obtain ⟨h1,h2⟩:=Ic (P:=P) r hy (hρ x)
   obtain ⟨v,g',w',k1,k2,k3,k4,k5⟩:=h1
   exact ⟨.value v,v,g',w',y,T',by simp [execOp,k1],rfl,h,k2,k3,k4,Fix.of_same k5 h2⟩
  ·exact h.elim
 case defer c=>
  simp only at h
  exfalso
  have:dZ P ro T (.defer c) (bb G σ)=none:=by
   simp [dZ,aW,cN,aY,cM,gR,uY,nR,oT]
  rw [this] at h
  exact h
 all_goals exact gen h rfl
theorem Ea {op:Op}{ro:Nat}{T T':VT}{ev:Operand→TV}{y:TV}(h:dZ P ro T op ev=some (y,T')):ci op=true:=by
 cases op<;>first
  |rfl
  | (exfalso;simp [dZ,aW,cN,aY,cM,gR,uY,nR,oT] at h)
theorem B0 {op:Op}{T T':VT}{ev:Operand→TV}{y:TV}(h:uY P T op ev=some (y,T')):ci op=true:=by
 cases op<;>first
  |rfl
  | (exfalso;simp [uY,cM,nR] at h)
theorem Ij {op:Op}{ro:Nat}{T:VT}{ev:Operand→TV}{y:TV}(h:aW P op ev=some y):dZ P ro T op ev=some (y,T):=by
 unfold dZ;rw [h]
theorem NZ {ro:Nat}{o:Oper}{σ:List TV}{T:VT}{K:List TV→VT→Prop}(h:BY P G F ro o σ T K):VPi P G ro o σ T K:=by
 unfold BY at h
 have go:∀{y T'},dZ P ro T o.op (aA G (ic σ o.op.operands.toList))=some (y,T')→K (bv σ o.dst y) T'→VPi P G ro o σ T K:=by
  intro y T' hy hk
  refine VPi.of (Ea hy) λg w ρ r hρ=> ?_
  obtain ⟨m,v,g',w',h1,h2,h3,h4,h5,h6⟩:=Ev (o:=o) r hy (lJ hρ _)
  exact ⟨m,v,g',w',y,T',h1,h2,hk,h3,h4,h5,h6⟩
 split at h
 ·obtain ⟨⟨hy⟩,hk⟩:=h
  exact go (Ij hy) hk
 ·obtain ⟨hy,hk⟩:=h
  cases hy with
  |mk hy=>exact go hy hk
  |old hf hy=>
   refine VPi.of (B0 hy) λg w ρ r hρ=> ?_
   obtain ⟨m,v,g',w',h1,h2,h3,h4,h5,h6⟩:=En (o:=o) r hf hy (lJ hρ _)
   exact ⟨m,v,g',w',_,_,h1,h2,hk,h3,h4,h5,h6⟩
  |ent it ho ht hy=>
   obtain ⟨dst,op,ty,pos,af,gd⟩:=o
   simp only at ho hk hy
   subst ho ht
   refine VPi.of rfl λg w ρ r hρ=> ?_
   obtain ⟨v,h1,h2⟩:=zL (P:=P) r hy (lJ hρ _ it)
   exact ⟨.value v,v,g,w,_,_,by simp [execOp,h2],rfl,hk,h1,Evo.refl _ _,r,Fix.refl _ _ _ _⟩
 ·exact NY h
theorem VPx.ext {ro:Nat}{o:Oper}{fo:Operand}{args:Array Operand}{ats:Array TypeId}{σ:List TV}{T T':VT}{K:List TV→VT→Prop}{f:FuncId}{fi ca:List TV}{y:TV}
  (ho:o.op=.call ⟨.value fo,args,ats⟩) (hf:bb G σ fo=.fn (.func f) fi ca) (hx:F9 P ro T f (fi++args.toList.map (bb G σ)++ca)=some (y,T')) (k:K (bv σ o.dst y) T'):VPx P G ro o σ T K:=by
 intro g w a next Q r hG hσ hn
 have h1:=eW hG hσ fo
 rw [hf] at h1
 obtain ⟨us,vs,h2,h3,h4⟩:=h1.fn_inv
 have hargs:=(h3.app (jq (eW hG hσ) args.toList)).app h4
 unfold F9 at hx
 split at hx
 ·rename_i fn hfn
  cases hb:fn.body.isNone with
  |false=>rw [hb] at hx;cases hx
  |true=>
   rw [hb] at hx
   obtain ⟨v,g',w',k1,k2,k3,k4,k5⟩:=NR r hfn hx hargs
   have hrun:(execOp a.eval o).run P w=.ok (.value v) w':=by
    obtain ⟨dst,op,ty,pos,af,gd⟩:=o
    simp only at ho;subst ho
    have e:(us.toArray++args.map a.eval)++vs.toArray=(us++args.toList.map a.eval++vs).toArray:=by
     apply Array.ext';simp
    simp only [execOp,resolve,h2,Deferred.ofValue,invoke,Sem.run_bind,Sem.run_pure,andThen_ok,e]
    exact k1
   unfold wp
   rw [hrun]
   exact hn _ _ g' w' _ ⟨_,rfl⟩ k k3 k4 (gz (hσ.mono k3) o.dst k2) (cp _ _ _) k5
 ·cases hx
theorem ix {call:gE}{rnd:iY}(hc:fH P G call)(hr:gF P G rnd){ro:Nat}{o:Oper}{σ:List TV}{T:VT}{K:List TV→VT→Prop}(h:i6 P G F call rnd ro o σ T K):VPi P G ro o σ T K:=by
 unfold i6 at h
 split at h
 ·rename_i fo args ats ho
  split at h
  ·rename_i f fi ca hf
   split at h
   ·rename_i y T' hx
    exact (VPx.ext ho hf hx h).toI (by rw [ho];rfl)
   ·obtain ⟨fn,h1,h2,h3,h4⟩:=hc _ _ _ _ _ h
    exact (VPx.call ho hf h1 h2 h3 h4).toI (by rw [ho];rfl)
  ·rename_i id hf
   exact VPi.yld ho hf (hr _ _ _ _ _ h)
  ·exact h.elim
 ·exact NZ h
theorem i8 {ops:Array Oper}{σ:List TV}{o:Oper}{b:Bool}(h:bP ops σ o=some b){g:Gh}{w:World}{a:Act}(hσ:VRs g w σ a.tmps.toList):wanted o (yielded ops a.tmps)=b:=FG (KV h) hσ
theorem yR {call:gE}{rnd:iY}(hc:fH P G call)(hr:gF P G rnd){ro:Nat}{ops:Array Oper}{K:List TV→VT→Prop}{r:Option Nat}{QQ:Exit→Act→World→Prop}:∀(js:List Nat) (l:List Oper),js.map (ops[·]?)=l.map some→∀(σ:List TV) (T:VT),qX P G F call rnd ro ops l σ T K→∀g w (a:Act),RW g T w→GOk G g w→VRs g w σ a.tmps.toList→
  (∀σ' T' g' w' (a':Act),K σ' T'→Evo g w g' w'→RW g' T' w'→VRs g' w' σ' a'.tmps.toList→a'.defers=a.defers→Fix ro g T w T' w'→QQ .normal a' w')→wpOpsIn (ct r) 0 P ops QQ js a w
 |[],[],_,σ,T,h,g,w,a,rw0,hG,hσ,hq=>hq σ T g w a h (Evo.refl _ _) rw0 hσ rfl (Fix.refl _ _ _ _)
 |[],_::_,hl,_,_,_,_,_,_,_,_,_,_=>by simp at hl
 |_::_,[],hl,_,_,_,_,_,_,_,_,_,_=>by simp at hl
 |j::js,o::l,hl,σ,T,h,g,w,a,rw0,hG,hσ,hq=>by
  simp only [List.map_cons,List.cons.injEq] at hl
  obtain ⟨ho,hl⟩:=hl
  simp only [wpOpsIn,ho]
  simp only [qX] at h
  replace h:=eD h
  split at h
  ·rename_i b hb
   have hw:=i8 hb hσ
   cases b with
   |true=>
    rw [if_pos hw]
    simp only [cond_true] at h
    exact ix hc hr h r g w a _ QQ rw0 hG hσ λσ' T' g' w' a' _ hk e r' hσ' hd' hx=>yR hc hr js l hl σ' T' hk g' w' a' r' (hG.mono e) hσ' λσ'' T'' g'' w'' a'' hk' e' r'' hσ'' hd'' hx'=>hq σ'' T'' g'' w'' a'' hk' (e.trans e') r'' hσ'' (hd''.trans hd') (hx.trans e hx')
   |false=>
    rw [if_neg (by rw [hw];exact Bool.false_ne_true)]
    refine ⟨λ_ _=>trivial,?_⟩
    exact yR hc hr js l hl _ T h g w _ rw0 hG (gz hσ o.dst (.val undef)) λσ'' T'' g'' w'' a'' hk' e' r'' hσ'' hd'' hx'=>hq σ'' T'' g'' w'' a'' hk' e' r'' hσ'' (hd''.trans (cp _ _ _)) hx'
  ·exact h.elim
theorem Ik (l:List Oper):(List.range l.length).map (l.toArray[·]?)=l.map some:=by
 apply ext_getElem?
 intro j
 simp only [List.getElem?_map,List.getElem?_toArray]
 rcases lt_or_ge j l.length with h | h
 ·simp [h]
 ·simp [getElem?_eq_none h,getElem?_eq_none (l:=List.range l.length) (by simpa using h)]
theorem q8 {call:gE}{rnd:iY}(hc:fH P G call)(hr:gF P G rnd){rd:Option Nat}{ro id:Nat}{ops:Array Oper}{σ:List TV}{T:VT}{D:List Nat}{Q:KX}(h:qX P G F call rnd ro ops ops.toList σ T λσ T=>Q .normal σ T D):VWx P G rd ro (.region id ops false) σ T D Q:=by
 intro r g w a rw0 hG hσ hd hD hrd
 have e:=Ik ops.toList
 rw [Array.toArray_toList] at e
 have h2:ops.toList.length=ops.size:=by simp
 rw [h2] at e
 exact wpIn_region (yR hc hr (List.range ops.size) ops.toList e σ T h g w a rw0 hG hσ λσ' T' g' w' a' hk e r' hσ' hd' hx=>⟨g',σ',T',D,hk,e,r',hσ',by rw [hd',hd,mt e hD],fR e hD,hx⟩)
theorem i9 {listed:Array Bool}{i n:Nat}(h:listed.size=n):(listed.setIfInBounds i true).size=n:=by simpa using h
theorem gS {call:gE}{rnd:iY}(hc:fH P G call)(hrr:gF P G rnd){ops:Array Oper}(hnd:∀(j:Nat) o,ops[j]?=some o→ci o.op=true)(hsel:∀(j:Nat) (o:Oper) cs b,ops[j]?=some o→o.op≠ .select cs b){ro ro':Nat}(hle:ro' ≤ro){K:List TV→VT→Prop}{r:Option Nat}{gs:Gh}{Ts:VT}{ws:World}{ds:List Deferred}{QQ:Act→World→Prop}
  (hq:∀σ' T' g' w' (a':Act),K σ' T'→Evo gs ws g' w'→RW g' T' w'→VRs g' w' σ' a'.tmps.toList→a'.defers=ds→Fix ro' gs Ts ws T' w'→QQ a' w'):
  ∀(l:List (Nat × PK)) (listed:Array Bool) (T0:VT) (ph:Bool) (σ:List TV) (T:VT),nD ops l listed=true→eI P G F call rnd ro ops T0 ph (iv ops l) σ T K→∀g0 w0 g w (a:Act),RW g0 T0 w0→GOk G g w→RW g T w→VRs g w σ a.tmps.toList→a.defers=ds→
   Evo g0 w0 g w→Same g0 T0 w0 w→T.objs.take T0.objs.length=T0.objs→(ph=false→g=g0∧w=w0∧T=T0)→Evo gs ws g w→Fix ro' gs Ts ws T w→ro' ≤T0.objs.length→Closed ops listed→listed.size=ops.size→
   ib P r ops (dX QQ) (SS g0 T0 w0 (dU l)) l.length listed a w
 |[],listed,T0,ph,σ,T,hp,h,g0,w0,g,w,a,r0,hG,r1,hσ,hds,he,hs,ht,hph,hes,hfx,hro,hcl,hsz=>by
  simp only [nD] at hp
  exact ⟨by simpa using hp,hq σ T g w a h hes r1 hσ hds hfx⟩
 | (i,k)::l,listed,T0,ph,σ,T,hp,h,g0,w0,g,w,a,r0,hG,r1,hσ,hds,he,hs,ht,hph,hes,hfx,hro,hcl,hsz=>by
  simp only [nD,and_eq_true,not_eq_true'] at hp
  obtain ⟨⟨hk,hib⟩,hp⟩:=hp
  have hib:=fS hib
  have hQ:∀e a w,e≠ .normal→¬dX QQ e a w:=λe a w he=>by cases e<;>first | exact (he rfl).elim | exact λh=>h
  have hin:∀i,i∈ready .any ops listed→∃o,ops[i]?=some o:=λi hi=>by obtain ⟨_,o,ho,_⟩:=mem_ready.1 hi;exact ⟨o,ho⟩
  have toSS:Same g0 T0 w0 w→∀bars L,SS g0 T0 w0 bars L w:=λhs bars L _=>hs
  have take:∀(o:Oper) (x:TV),ops[i]?=some o→i∈ready .any ops listed→free .any ops listed i=true→
    ∀(Sr:World→Prop),Sr w→(∀(L:Array Bool) w,Closed ops L→L.getD i false=false→SS g0 T0 w0 (dU l) (L.setIfInBounds i true) w→Sr w)→
    (∀b,bP ops σ o=some b→cond b (∃v,VR g w x v∧(∀w',Sr w'→(execOp a.eval o).run P w'=.ok (.value v) w')∧∀v,VR g w x v→ib P r ops (dX QQ) (SS g0 T0 w0 (dU l)) l.length (listed.setIfInBounds i true) (a.put o.dst v) w)
     (ib P r ops (dX QQ) (SS g0 T0 w0 (dU l)) l.length (listed.setIfInBounds i true) (a.put o.dst undef) w))→
    (∃b,bP ops σ o=some b)→ib P r ops (dX QQ) (SS g0 T0 w0 (dU l)) (l.length+1) listed a w:=by
   intro o x ho hri hfree Sr hSr hSS hgo ⟨b,hb⟩
   have hw:=i8 hb hσ
   have h1:=hgo b hb
   cases b with
   |true=>
    obtain ⟨v,h2,h3,h4⟩:=h1
    exact sF ho hnd hsel hQ hSS (λL w h=>BT hib L w h) _ listed a w hcl (free_spec ho hfree) hri (.inl ⟨hw,h3⟩) hSr (toSS hs _ _) (h4 v h2)
   |false=>
    exact sF ho hnd hsel hQ hSS (λL w h=>BT hib L w h) _ listed a w hcl (free_spec ho hfree) hri (.inr ⟨hw,rfl⟩) hSr (toSS hs _ _) h1
  have hTl:T0.objs.length≤T.objs.length:=by
   have:=congrArg length ht
   rw [length_take] at this;omega
  rw [List.length_cons]
  cases k with
  |pk0=>
   have hbars:dU ((i,PK.pk0)::l)=dU l:=rfl
   rw [hbars]
   simp only [and_eq_true,List.contains_iff_mem] at hk
   obtain ⟨hfree,hri⟩:=hk
   obtain ⟨o,ho⟩:=hin i hri
   simp only [iv,ho] at h
   simp only [eI] at h
   replace h:=eD h
   have hcl':=hcl.set hri
   have hx0:∃x,bP ops σ o=some true→(∃v,VR g w x v∧∀w',(execOp a.eval o).run P w'=.ok (.value v) w')∧eI P G F call rnd ro ops T0 ph (iv ops l) (bv σ o.dst x) T K:=by
    by_cases hb:bP ops σ o=some true
    ·rw [hb] at h
     simp only [cond_true] at h
     split at h
     ·rename_i x hx
      exact ⟨x,λ_=>⟨by obtain ⟨hx⟩:=h.1;exact mr (P:=P) hx (lJ (eW hG hσ) _),h.2⟩⟩
     ·exact h.elim
     ·split at h
      ·rename_i x hx
       exact ⟨x,λ_=>⟨mr (P:=P) hx (eW hG hσ),h⟩⟩
      ·exact h.elim
    ·exact ⟨.dead,λh=>absurd h hb⟩
   obtain ⟨x,hx0⟩:=hx0
   refine take o x ho hri hfree (λ_=>True) trivial (λ_ _ _ _ _=>trivial) ?_ ?_
   ·intro b hb
    cases b with
    |true=>
     obtain ⟨⟨v,h1,h2⟩,h⟩:=hx0 hb
     exact ⟨v,h1,λw' _=>h2 w',λv hv=>gS hc hrr hnd hsel hle hq l _ T0 ph _ T hp h g0 w0 g w _ r0 hG r1 (gz hσ o.dst hv) ((cp _ _ _).trans hds) he hs ht hph hes hfx hro hcl' (i9 hsz)⟩
    |false=>
     rw [hb] at h
     simp only [cond_false] at h ⊢
     exact gS hc hrr hnd hsel hle hq l _ T0 ph _ T hp h g0 w0 g w _ r0 hG r1 (gz hσ o.dst (.val undef)) ((cp _ _ _).trans hds) he hs ht hph hes hfx hro hcl' (i9 hsz)
   ·split at h
    ·exact ⟨_,by assumption⟩
    ·exact h.elim
  |pk1=>
   have hbars:dU ((i,PK.pk1)::l)=dU l:=rfl
   rw [hbars]
   simp only [and_eq_true,List.contains_iff_mem] at hk
   obtain ⟨⟨hfree,hri⟩,hanc⟩:=hk
   obtain ⟨o,ho⟩:=hin i hri
   simp only [iv,ho] at h
   simp only [eI] at h
   replace h:=eD h
   have hcl':=hcl.set hri
   have late:∀{ev:Operand→TV} {x:TV},(∀x,VR g w (ev x) (a.eval x))→qj P T0 ph o.op ev=some x→∃v,VR g w x v∧∀w',Same g0 T0 w0 w'→(execOp a.eval o).run P w'=.ok (.value v) w':=by
    intro ev x hev hx
    unfold qj at hx
    split at hx
    ·rename_i y hy
     injection hx with hx;subst hx
     obtain ⟨v,h1,h2⟩:=mr (P:=P) hy hev
     exact ⟨v,h1,λw' _=>h2 w'⟩
    ·cases ph with
     |true=>
      simp only [cond_true] at hx
      exact Ia (P:=P) r0 he hx hev
     |false=>
      obtain ⟨rfl,rfl,rfl⟩:=hph rfl
      simp only [cond_false] at hx
      exact sC (P:=P) r1 hx hev
   have hx0:∃x,bP ops σ o=some true→(∃v,VR g w x v∧∀w',Same g0 T0 w0 w'→(execOp a.eval o).run P w'=.ok (.value v) w')∧eI P G F call rnd ro ops T0 ph (iv ops l) (bv σ o.dst x) T K:=by
    by_cases hb:bP ops σ o=some true
    ·rw [hb] at h
     simp only [cond_true] at h
     split at h
     ·rename_i x hx
      exact ⟨x,λ_=>⟨by obtain ⟨hx⟩:=h.1;exact late (lJ (eW hG hσ) _) hx,h.2⟩⟩
     ·exact h.elim
     ·split at h
      ·rename_i x hx
       exact ⟨x,λ_=>⟨late (eW hG hσ) hx,h⟩⟩
      ·exact h.elim
    ·exact ⟨.dead,λh=>absurd h hb⟩
   obtain ⟨x,hx0⟩:=hx0
   refine take o x ho hri hfree (Same g0 T0 w0) hs (λL w h1 h2 h3=>NV hib (λb hb=>all_eq_true.1 hanc b hb) L w h1 h2 h3) ?_ ?_
   ·intro b hb
    cases b with
    |true=>
     obtain ⟨⟨v,h1,h2⟩,h⟩:=hx0 hb
     exact ⟨v,h1,h2,λv hv=>gS hc hrr hnd hsel hle hq l _ T0 ph _ T hp h g0 w0 g w _ r0 hG r1 (gz hσ o.dst hv) ((cp _ _ _).trans hds) he hs ht hph hes hfx hro hcl' (i9 hsz)⟩
    |false=>
     rw [hb] at h
     simp only [cond_false] at h ⊢
     exact gS hc hrr hnd hsel hle hq l _ T0 ph _ T hp h g0 w0 g w _ r0 hG r1 (gz hσ o.dst (.val undef)) ((cp _ _ _).trans hds) he hs ht hph hes hfx hro hcl' (i9 hsz)
   ·split at h
    ·exact ⟨_,by assumption⟩
    ·exact h.elim
  |pk2=>
   have hbars:dU ((i,PK.pk2)::l)=dU l:=rfl
   rw [hbars]
   have hk:ready .any ops listed= [i]:=by simpa using hk
   have hri:i∈ready .any ops listed:=by rw [hk];simp
   obtain ⟨o,ho⟩:=hin i hri
   simp only [iv,ho] at h
   simp only [eI] at h
   replace h:=eD h
   have hcl':=hcl.set hri
   refine u6 hk ?_
   split at h
   ·rename_i b hb
    have hw:=i8 hb hσ
    unfold wpOpIn
    simp only [ho]
    cases b with
    |true=>
     rw [if_pos hw]
     simp only [cond_true] at h
     refine ix hc hrr h r g w a _ _ r1 hG hσ λσ' T' g' w' a' _ hk' e' r' hσ' hd' hx'=> ?_
     have he':=he.trans e'
     have hs2:Same g0 T0 w0 w':=by
      refine ⟨λb o hb=>(he'.st b o hb).2,λid o b hid hl hb=> ?_⟩
      have hlt:=(List.getElem?_eq_some_iff.1 hid).1
      have h1:T.objs[id]?=some o:=by
       have hid':=hid
       rw [←ht,getElem?_take,if_pos hlt] at hid'
       exact hid'
      rw [hx'.heap id o b hlt h1 hl (he.obj id b hb),hs.obj id o b hid hl hb]
     have ht2:T'.objs.take T0.objs.length=T0.objs:=by
      refine Eq.trans ?_ ht
      apply ext_getElem?
      intro j
      rw [getElem?_take,getElem?_take]
      split
      ·rename_i hj
       exact hx'.same j hj (by omega)
      ·rfl
     refine ⟨λ_=>hs2,?_⟩
     exact gS hc hrr hnd hsel hle hq l _ T0 true σ' T' hp hk' g0 w0 g' w' a' r0 (hG.mono e') r' hσ' (hd'.trans hds) he' hs2 ht2 (λh=>by cases h) (hes.trans e') (hfx.trans hes (hx'.mono hro)) hro hcl' (i9 hsz)
    |false=>
     rw [if_neg (by rw [hw];exact Bool.false_ne_true)]
     simp only [cond_false] at h
     refine ⟨λ_ _=>trivial,λ_=>hs,?_⟩
     exact gS hc hrr hnd hsel hle hq l _ T0 true _ T hp h g0 w0 g w _ r0 hG r1 (gz hσ o.dst (.val undef)) ((cp _ _ _).trans hds) he hs ht (λh=>by cases h) hes hfx hro hcl' (i9 hsz)
   ·exact h.elim
  |pk3=>
   have hbars:dU ((i,PK.pk3)::l)=i::dU l:=rfl
   rw [hbars]
   have hk:ready .any ops listed= [i]:=by simpa using hk
   have hri:i∈ready .any ops listed:=by rw [hk];simp
   obtain ⟨o,ho⟩:=hin i hri
   simp only [iv,ho] at h
   simp only [eI] at h
   replace h:=eD h
   have hcl':=hcl.set hri
   have hil:i<listed.size:=by rw [hsz];exact (Array.getElem?_eq_some_iff.1 ho).1
   have hset:(listed.setIfInBounds i true).getD i false=true:=by simp [hil]
   have hSi:∀(L:Array Bool) w,L.getD i false=true→SS g0 T0 w0 (i::dU l) L w:=λL w hL hb=>by
    have:=hb i (by simp)
    rw [hL] at this;cases this
   refine u6 hk ?_
   split at h
   ·rename_i b hb
    have hw:=i8 hb hσ
    unfold wpOpIn
    simp only [ho]
    cases b with
    |true=>
     rw [if_pos hw]
     simp only [cond_true] at h
     refine ix hc hrr h r g w a _ _ r1 hG hσ λσ' T' g' w' a' _ hk' e' r' hσ' hd' hx'=> ?_
     refine ⟨hSi _ _ hset,mM (S':=SS g' T' w' (dU l)) hSi _ _ _ _ hset ?_⟩
     exact gS hc hrr hnd hsel hle hq l _ T' false σ' T' hp hk' g' w' g' w' a' r' (hG.mono e') r' hσ' (hd'.trans hds) (Evo.refl _ _) (Same.refl _ _ _) take_length (λ_=>⟨rfl,rfl,rfl⟩) (hes.trans e') (hfx.trans hes (hx'.mono hle)) (le_trans (le_trans hro hTl) hx'.len) hcl' (i9 hsz)
    |false=>
     rw [if_neg (by rw [hw];exact Bool.false_ne_true)]
     simp only [cond_false] at h
     refine ⟨λ_ _=>trivial,hSi _ _ hset,mM (S':=SS g T w (dU l)) hSi _ _ _ _ hset ?_⟩
     exact gS hc hrr hnd hsel hle hq l _ T false _ T hp h g w g w _ r1 hG r1 (gz hσ o.dst (.val undef)) ((cp _ _ _).trans hds) (Evo.refl _ _) (Same.refl _ _ _) take_length (λ_=>⟨rfl,rfl,rfl⟩) hes hfx (le_trans hro hTl) hcl' (i9 hsz)
   ·exact h.elim
end
section
variable {P:Program}{G:aP}
theorem lK {T0 T:VT}(h:T.objs.take T0.objs.length=T0.objs){id:Nat}{o:VO}(k:T0.objs[id]?=some o):T.objs[id]?=some o:=by
 have hlt:=(List.getElem?_eq_some_iff.1 k).1
 rw [←h,getElem?_take,if_pos hlt] at k
 exact k
theorem sL {T0 T:VT}(h:T.objs.take T0.objs.length=T0.objs){x:TV}{n:Nat}{cs:List TV}(k:dC T0 x n=some cs):dC T x n=some cs:=by
 cases x
 case ptr id off=>
  simp only [dC] at k ⊢
  split at k
  ·rename_i cs' hid;rw [lK h hid];exact k
  ·rename_i cs' hid;rw [lK h hid];exact k
  ·cases k
 all_goals first
  |exact k
  | (simp only [dC] at k;done)
theorem Ge {T0 T:VT}(h:T.objs.take T0.objs.length=T0.objs){t:TypeId}{x y:TV}(k:jp P T0 t x=some y):jp P T t x=some y:=by
 unfold jp at k ⊢
 cases hu:P.underlying t with
 |none=>rw [hu] at k;cases k
 |some d=>
  cases hi:P.info? t with
  |none=>rw [hu,hi] at k;cases k
  |some i=>
   rw [hu,hi] at k
   simp only at k ⊢
   cases hb:kS d with
   |true=>
    rw [hb] at k
    simp only [if_true,map_eq_some_iff] at k ⊢
    obtain ⟨cs,h1,h2⟩:=k
    exact ⟨cs,sL h h1,h2⟩
   |false=>
    rw [hb] at k
    simp only [Bool.false_eq_true,if_false] at k ⊢
    split at k
    ·rename_i z hz;rw [sL h hz];exact k
    ·cases k
theorem Il {T0 T:VT}(h:T.objs.take T0.objs.length=T0.objs){t:TypeId}{x y:TV}(k:pE P T0 t x=some y):pE P T t x=some y:=by
 unfold pE at k ⊢
 cases hu:P.underlying t with
 |none=>rw [hu] at k;cases k
 |some d=>
  rw [hu] at k
  cases d<;>try (exact k)
  cases x
  case val v=>
   cases v<;>try (exact k)
   rename_i m
   cases m<;>exact k
  case map id=>
   have k':(match T0.objs[id]? with
    |some (VO.map _ _ es _)=>some (TV.val (.int .i64 es.length))
    |_=>none)=some y:=k
   show (match T.objs[id]? with
    |some (VO.map _ _ es _)=>some (TV.val (.int .i64 es.length))
    |_=>none)=some y
   split at k'
   ·rename_i hid;rw [lK h hid];exact k'
   ·cases k'
  all_goals exact k
theorem Gf {T0 T:VT}(h:T.objs.take T0.objs.length=T0.objs){n:Nat}{x:TV}{y:List (List TV)}(k:bL T0 n x=some y):bL T n x=some y:=by
 cases x
 case row sz id off m=>
  simp only [bL] at k ⊢
  split at k
  ·rename_i hid;rw [lK h hid];exact k
  ·cases k
 case sl id off m c=>
  simp only [bL] at k ⊢
  split at k
  ·rename_i hid;rw [lK h hid];exact k
  ·rename_i hid;rw [lK h hid];exact k
  ·cases k
 case val v=>
  cases v<;>try (exact k)
  rename_i q m c
  cases q<;>try (exact k)
  cases m<;>exact k
 all_goals exact k
theorem Eb {T0 T:VT}(h:T.objs.take T0.objs.length=T0.objs){s d:TypeId}{x y:TV}(k:gA P T0 s d x=some y):gA P T s d x=some y:=by
 unfold gA at k ⊢
 split at k
 ·split at k
  ·cases x
   case val v=>exact k
   all_goals
    simp only at k ⊢
    split at k
    ·rename_i es hes;rw [Gf h hes];exact k
    ·cases k
  ·cases k
 ·cases k
theorem B1 {T0 T:VT}(h:T.objs.take T0.objs.length=T0.objs){t:TypeId}{m k y:TV}{ok:Bool}(q:fA P T0 t m k ok=some y):fA P T t m k ok=some y:=by
 unfold fA at q ⊢
 split at q
 ·rename_i kt et kv hu hk
  split at q
  ·rename_i sh i hs hi
   split at q
   ·cases hb:sh.fits kv with
    |false=>rw [hb] at q;cases q
    |true=>
     rw [hb] at q
     simp only [cond_true] at q ⊢
     cases m
     case val v=>
      cases v<;>try (exact q)
      rename_i m
      cases m<;>exact q
     case map id=>
      have q':(match T0.objs[id]? with
       |some (VO.map sh' look _ _)=>bif j6 sh sh' then some (jw ok (look kv) _) else none
       |_=>none)=some y:=q
      show (match T.objs[id]? with
       |some (VO.map sh' look _ _)=>bif j6 sh sh' then some (jw ok (look kv) _) else none
       |_=>none)=some y
      split at q'
      ·rename_i hid;rw [lK h hid];exact q'
      ·cases q'
     all_goals exact q
   ·cases q
  ·cases q
 ·cases q
theorem Gg {T0 T:VT}(h:T.objs.take T0.objs.length=T0.objs){op:Op}{ev:Operand→TV}{y:TV}(k:cM P T0 op ev=some y):cM P T op ev=some y:=by
 cases op<;>simp only [cM] at k ⊢<;>try (exact k)
 case load t a=>exact Ge h k
 case call c=>
  obtain ⟨cal,args,ats⟩:=c
  unfold gv at k ⊢
  split at k
  ·rename_i hc
   split at k
   ·exact Il h k
   ·cases k
  ·exact k
  ·exact k
  ·cases k
theorem jT {T0 T:VT}(h:T.objs.take T0.objs.length=T0.objs){op:Op}{ev:Operand→TV}{y:TV}(k:aY P T0 op ev=some y):aY P T op ev=some y:=by
 cases op<;>simp only [aY] at k ⊢<;>try (exact Gg h k)
 case convert s d x=>
  split at k
  ·rename_i r hr
   rw [Eb h hr];exact k
  ·rename_i hn
   have e:gA P T s d (ev x)=none∨∃r,gA P T s d (ev x)=some r:=by cases gA P T s d (ev x)<;>simp
   rcases e with e | ⟨r,e⟩
   ·rw [e];exact k
   ·exfalso
    simp only [cM,Option.bind_eq_some_iff] at k
    obtain ⟨v,hv,k⟩:=k
    --a value that is known whole is no row
    unfold gA at e
    split at e
    ·rename_i el hs hd
     split at e
     ·cases hx:ev x<;>rw [hx] at e hv<;>simp only at e<;>try (cases e)
      all_goals try (simp [cL] at hv;done)
      all_goals
       rename_i cs
       simp only [bL] at e
       cases e
     ·cases e
    ·cases e
 case lookup t m q ok=>exact B1 h k
def kW (P:Program)(G:aP)(Tp:VT)(o:Oper)(s:List TV)(y:TV):Prop:=∀g w (ρ:Operand→Value) T,T.objs.take Tp.objs.length=Tp.objs→RW g T w→(∀x,VR g w (bb G s x) (ρ x))→
 ∃m v g' w',(execOp ρ o).run P w=.ok m w'∧iu m=some v∧VR g' w' y v∧Evo g w g' w'∧RW g' T w'∧Same g T w w'
theorem KY (T:VT):T.objs.take (⟨[],[]⟩:VT).objs.length=(⟨[],[]⟩:VT).objs:=by simp
theorem vR {o:Oper}{s:List TV}{y:TV}{ev:(Operand→TV)}(hev:∀g w (ρ:Operand→Value),(∀x,VR g w (bb G s x) (ρ x))→∀x,VR g w (ev x) (ρ x))(h:aW P o.op ev=some y)(Tp:VT):kW P G Tp o s y:=by
 intro g w ρ T _ r hρ
 obtain ⟨v,h1,h2⟩:=mr (P:=P) h (hev g w ρ hρ)
 exact ⟨_,v,g,w,h2 w,rfl,h1,Evo.refl _ _,r,Same.refl _ _ _⟩
theorem KZ {T0:VT}{o:Oper}{s:List TV}{y:TV}(h:aY P T0 o.op (bb G s)=some y):kW P G T0 o s y:=by
 intro g w ρ T hT r hρ
 obtain ⟨v,h1,h2⟩:=sC (P:=P) r (jT hT h) hρ
 exact ⟨_,v,g,w,h2 w (Same.refl _ _ _),rfl,h1,Evo.refl _ _,r,Same.refl _ _ _⟩
theorem zN {T0:VT}{o:Oper}{s:List TV}{y:TV}(h:A6 P G T0 o s y):kW P G ⟨[],[]⟩ o s y∨(isRead P o.op=true∧aW P o.op (bb G s)=none∧aY P T0 o.op (bb G s)=some y):=by
 unfold A6 at h
 split at h
 ·rename_i t d x hop
  cases hr:isRead P (.convert t d x) with
  |false=>
   rw [hr] at h
   obtain ⟨hpu⟩:=h
   exact .inl (vR (λg w ρ hρ=>lJ hρ _) hpu _)
  |true=>
   rw [hr] at h
   obtain ⟨h0,h1⟩:=h
   rw [hop]
   exact .inr ⟨hr,by simp [aW,cN,h0],by simp only [aY,h1]⟩
 ·rename_i t m k ok hop
  obtain ⟨h1⟩:=h
  rw [hop]
  exact .inr ⟨rfl,by simp [aW,cN],by simp only [aY,h1]⟩
 ·obtain ⟨hpu⟩:=h
  exact .inl (vR (λg w ρ hρ=>lJ hρ _) hpu _)
theorem zO {T0:VT}{o:Oper}{s:List TV}{y:TV}(h:A7 P T0 o.op (bb G s)=some y):kW P G ⟨[],[]⟩ o s y∨(isRead P o.op=true∧aW P o.op (bb G s)=none∧aY P T0 o.op (bb G s)=some y):=by
 unfold A7 at h
 split at h
 ·rename_i x hx
  injection h with h;subst h
  exact .inl (vR (λ_ _ _ h=>h) hx _)
 ·split at h
  ·rename_i x hx
   injection h with h;subst h
   cases hr:isRead P o.op with
   |false=>rw [hr] at hx;cases hx
   |true=>
    rw [hr] at hx
    simp only [cond_true] at hx
    exact .inr ⟨rfl,by assumption,hx⟩
  ·split at h
   ·rename_i t n ps hop
    left
    intro g w ρ T hT r hρ
    have hm:jZ P T o.op (bb G s)=some (y,T):=by
     rw [hop]
     simp only [jZ,map_eq_some_iff] at h ⊢
     obtain ⟨z,⟨y',h1,h2⟩,h3⟩:=h
     subst h2 h3
     exact ⟨_,h1,rfl⟩
    obtain ⟨v,g',w',h1,h2,h3,h4,h5⟩:=BA (P:=P) r hm hρ
    exact ⟨_,v,g',w',h1,rfl,h2,h3,h4,h5⟩
   ·cases h
def AgreeOut (id off n:Nat)(T1 T2:VT):Prop:=(∀j,j≠id→T1.objs[j]?=T2.objs[j]?)∧(T1.objs[id]?=T2.objs[id]?∨
 (∃c1 c2,T1.objs[id]?=some (.cells c1)∧T2.objs[id]?=some (.cells c2)∧c1.length=c2.length∧∀k,(k<off∨off+n≤k)→c1[k]?=c2[k]?)∨
 (∃c1 c2,T1.objs[id]?=some (.row c1)∧T2.objs[id]?=some (.row c2)∧c1.length=c2.length∧∀k,(k<off∨off+n≤k)→c1[k]?=c2[k]?))
theorem zP {cs new:List TV}{off:Nat}(h:off+new.length≤cs.length):(bs cs off new).length=cs.length∧∀k,(k<off∨off+new.length≤k)→cs[k]?=(bs cs off new)[k]?:=by
 unfold bs
 refine ⟨by simp;omega,λk hk=> ?_⟩
 have hl:(cs.take off).length=off:=by simp;omega
 rcases hk with hk | hk
 ·rw [List.append_assoc,List.getElem?_append_left (by omega),getElem?_take,if_pos hk]
 ·rw [List.getElem?_append_right (by simp;omega),List.getElem?_drop]
  congr 1
  simp;omega
theorem Im {ro:Nat}{T T':VT}{t:TypeId}{id off:Nat}{x:TV}{new:List TV}(hn:bR x=some new)(h:wY P ro T t (.ptr id off) x=some T'):AgreeOut id off new.length T T'∧T'.objs.length=T.objs.length:=by
 unfold wY at h
 split at h
 ·rename_i y T1 h1
  injection h with h;subst h
  unfold nC at h1
  simp only [hn] at h1
  split at h1
  ·rename_i cs new' i hid hnew hi
   injection hnew with hnew;subst hnew
   cases hb:(beq i.size new.length&&ble (off+new.length) cs.length&&new.all fQ&&ble ro id) with
   |false=>rw [hb] at h1;cases h1
   |true=>
    rw [hb] at h1
    simp only [and_eq_true] at hb
    have hle:=le_of_ble_eq_true hb.1.1.2
    injection h1 with h1;injection h1 with _ h1;subst h1
    have hlt:=(List.getElem?_eq_some_iff.1 hid).1
    obtain ⟨k1,k2⟩:=zP hle
    exact ⟨⟨λj hj=>by simp only [getElem?_set];rw [if_neg (λe=>hj e.symm)],.inr (.inr ⟨cs,_,hid,by simp [hlt],k1.symm,k2⟩)⟩,by simp⟩
  ·cases h1
 ·cases hr:ble ro id with
  |false=>simp only [hr] at h;cases h
  |true=>
   simp only [hr,cond_true,map_eq_some_iff] at h
   obtain ⟨⟨y,T1⟩,h1,h2⟩:=h
   simp only at h2;subst h2
   unfold kU at h1
   simp only [hn] at h1
   split at h1
   ·rename_i cs new' i hid hnew hi
    injection hnew with hnew;subst hnew
    split at h1
    ·rename_i hh
     injection h1 with h1;injection h1 with _ h1;subst h1
     have hlt:=(List.getElem?_eq_some_iff.1 hid).1
     obtain ⟨k1,k2⟩:=zP hh.2.1
     exact ⟨⟨λj hj=>by simp only [getElem?_set];rw [if_neg (λe=>hj e.symm)],.inr (.inl ⟨cs,_,hid,by simp [hlt],k1.symm,k2⟩)⟩,by simp⟩
    ·cases h1
   ·cases h1
theorem AgreeOut.take {id off n m:Nat}{T1 T2:VT}(h:AgreeOut id off n T1 T2):AgreeOut id off n (T1.takeO m) (T2.takeO m):=by
 have e:∀(T:VT) (j:Nat),(T.takeO m).objs[j]?=if j<m then T.objs[j]? else none:=λT j=>by simp [VT.takeO,getElem?_take]
 refine ⟨λj hj=>by rw [e,e,h.1 j hj],?_⟩
 rw [e,e]
 by_cases hm:id<m
 ·rw [if_pos hm,if_pos hm];exact h.2
 ·rw [if_neg hm,if_neg hm];exact .inl rfl
theorem u7 {c1 c2:List TV}{off n off' m:Nat}(hl:c1.length=c2.length)(h:∀k,(k<off∨off+n≤k)→c1[k]?=c2[k]?)(ha:off' +m≤off∨off+n≤off'):(c1.drop off').take m=(c2.drop off').take m:=by
 apply ext_getElem?
 intro k
 rw [getElem?_take,getElem?_take,List.getElem?_drop,List.getElem?_drop]
 split
 ·exact h _ (by omega)
 ·rfl
theorem Gi {id off n:Nat}{T1 T2:VT}(h:AgreeOut id off n T1 T2){op:Op}{ev:Operand→TV}(ha:apartRead P id off n op ev=true):aY P T1 op ev=aY P T2 op ev:=by
 have hne:∀id',(!(beq id' id))=true→T1.objs[id']?=T2.objs[id']?:=λid' hb=>h.1 id' (by
  rintro rfl
  rw [beq_refl] at hb;cases hb)
 unfold apartRead at ha
 split at ha
 ·rename_i t a
  simp only [aY,cM]
  split at ha
  ·rename_i id' off' hev
   rw [hev]
   have key:∀m,(P.info? t).map (λi=>decide (m≤max i.size 1))=some true→dC T1 (.ptr id' off') m=dC T2 (.ptr id' off') m:=by
    intro m hm
    simp only [dC]
    by_cases hid:id'=id
    ·subst hid
     rw [beq_refl] at ha
     simp only [Bool.not_true,Bool.false_or] at ha
     split at ha
     ·rename_i i hi
      rw [hi] at hm
      simp only [map_some,Option.some.injEq,decide_eq_true_eq] at hm
      have hap:off' +m≤off∨off+n≤off':=by
       simp only [or_eq_true] at ha
       rcases ha with ha | ha
       ·have:=le_of_ble_eq_true ha
        exact .inl (by omega)
       ·exact .inr (le_of_ble_eq_true ha)
      rcases h.2 with h2 | ⟨c1,c2,h2,h3,h4,h5⟩ | ⟨c1,c2,h2,h3,h4,h5⟩
      ·rw [h2]
      ·rw [h2,h3]
       simp only
       rw [h4,u7 h4 h5 hap]
      ·rw [h2,h3]
       simp only
       rw [h4,u7 h4 h5 hap]
     ·cases ha
    ·rw [h.1 id' hid]
   unfold jp
   cases hu:P.underlying t with
   |none=>rfl
   |some d=>
    cases hi:P.info? t with
    |none=>rfl
    |some i=>
     simp only
     rw [key i.size (by rw [hi];simp;omega),key 1 (by rw [hi];simp;omega)]
  ·rename_i cs hev
   rw [hev];rfl
  ·cases ha
 ·rename_i t m k ok
  simp only [aY]
  split at ha
  ·rename_i id' hev
   rw [hev]
   unfold fA
   simp only [hne id' ha]
  ·cases ha
 ·rename_i c
  simp only [aY,cM]
  unfold gv
  split at ha
  ·rename_i x hc hx
   simp only [hc,hx]
   split at ha
   ·rename_i id' hev
    split
    ·rename_i t x' h1 h2
     injection h2 with h2;subst h2
     rw [hev]
     unfold pE
     simp only [hne id' ha]
    ·rfl
   ·cases ha
  ·cases ha
 ·cases ha
def gP (g:Gh)(B:Nat→Prop):Gh:={g with fr:=λb=>g.fr b∨B b}
theorem TokOk.gh {g g':Gh}{w:World}(ho:g'.obj=g.obj)(ht:g'.tail=g.tail){tok:Tok}{size n b o c:Nat}(h:TokOk g w tok size n b o c):TokOk g' w tok size n b o c:=by
 cases tok<;>simp only [TokOk] at h ⊢<;>try (exact h)
 ·rw [ht];exact h
 ·rw [ho];exact h
theorem NilTok.gh {g g':Gh}(ht:g'.tail=g.tail){tok:Tok}{size:Nat}(h:NilTok g tok size):NilTok g' tok size:=by
 cases tok<;>simp only [NilTok] at h ⊢<;>try (exact h)
 rw [ht];exact h
theorem VR.gh {g g':Gh}{w:World}(ho:g'.obj=g.obj)(hs:g'.st=g.st)(ht:g'.tail=g.tail){x:TV}{u:Value}(k:VR g w x u):VR g' w x u:=by
 induction k with
 |val v=>exact .val v
 |dead v=>exact .dead v
 |ptr hb=>exact .ptr (by rw [ho];exact hb)
 |sl hb=>exact .sl (by rw [ho];exact hb)
 |map hb=>exact .map (by rw [ho];exact hb)
 |yld hb=>exact .yld (by rw [ho];exact hb)
 |row hb hl hn hm hc=>exact .row (by rw [ho];exact hb) hl hn hm hc
 |nil hk=>exact .nil (hk.gh ht)
 |odd a hk=>exact .odd a (hk.gh ho ht)
 |vec hn hc hz hk hl h1 hs' hw _ ih=>exact .vec hn hc hz (hk.gh ho ht) hl h1 (λj hj=>by rw [hs];exact hs' j hj) hw ih
 |elt hl h1 hs' hw _ ih=>exact .elt hl h1 (λj hj=>by rw [hs];exact hs' j hj) hw ih
 |agg hl _ ih=>exact .agg hl ih
 |tup hl _ ih=>exact .tup hl ih
 |fn hl _ hl2 _ ih ih2=>exact .fn hl ih hl2 ih2
 |ifc _ ih=>exact .ifc ih
theorem VR.toP {g:Gh}{w:World}{B:Nat→Prop}{x:TV}{u:Value}(k:VR g w x u):VR (gP g B) w x u:=VR.gh (g:=g) (g':=gP g B) rfl rfl rfl k
theorem VR.ofP {g:Gh}{w:World}{B:Nat→Prop}{x:TV}{u:Value}(k:VR (gP g B) w x u):VR g w x u:=VR.gh (g:=gP g B) (g':=g) rfl rfl rfl k
theorem VRs.gh {g g':Gh}{w:World}(ho:g'.obj=g.obj)(hs:g'.st=g.st)(ht:g'.tail=g.tail){xs:List TV}{us:List Value}(k:VRs g w xs us):VRs g' w xs us:=⟨k.1,λj x u hx hu=>(k.2 j x u hx hu).gh ho hs ht⟩
theorem OR.gh {g g':Gh}{w:World}(ho:g'.obj=g.obj)(hs:g'.st=g.st)(ht:g'.tail=g.tail){b:Nat}{o:VO}(h:OR g w b o):OR g' w b o:=by
 cases o with
 |cells cs=>obtain ⟨us,t,h1,h2,h3⟩:=h;exact ⟨us,t,h1,h2.gh ho hs ht,h3⟩
 |row cs=>obtain ⟨us,t,h1,h2,h3,h4⟩:=h;exact ⟨us,t,h1,h2,h3.gh ho hs ht,h4⟩
 |map sh look es ck=>obtain ⟨ms,h1,h2,h3,h4⟩:=h;exact ⟨ms,h1,h2,h3.gh ho hs ht,h4⟩
 |iter m since seen stepped=>obtain ⟨mb,h1,h2⟩:=h;exact ⟨mb,h1,h2.gh ho hs ht⟩
 |siter s pos=>exact h
 |loop st pend σ ps asg body=>obtain ⟨us,fn,db,h1,h2⟩:=h;exact ⟨us,fn,db,h1,h2.gh ho hs ht⟩
 |defd=>exact h
 |gone=>trivial
theorem RW.frs {g g':Gh}{T:VT}{w:World}(r:RW g T w)(ho:g'.obj=g.obj)(hs:g'.st=g.st)(ht:g'.tail=g.tail)
  (hf:∀b,g'.fr b→b<w.heap.size∧(g.fr b∨((∀(id:Nat) o,T.objs[id]?=some o→o.live=true→g.obj id≠some b)∧∀(k:Nat) x,g.tail k=some x→¬x.has b))):RW g' T w:=by
 refine ⟨?_,?_,?_,?_,λb h=>(hf b h).1,?_,?_,?_,?_,?_,?_,?_⟩
 ·intro id o h hl
  obtain ⟨b,h1,h2,h3,h4⟩:=r.obj id o h hl
  refine ⟨b,by rw [ho];exact h1,h2.gh ho hs ht,λhb=> ?_,λo=>by rw [hs];exact h4 o⟩
  rcases (hf b hb).2 with h5 | h5
  ·exact h3 h5
  ·exact h5.1 id o h hl h1
 ·intro i j oi oj b h1 l1 h2 l2 b1 b2
  rw [ho] at b1 b2
  exact r.inj i j oi oj b h1 l1 h2 l2 b1 b2
 ·intro id hid;rw [ho];exact r.out id hid
 ·intro b o h;rw [hs] at h;exact r.st b o h
 ·intro k p h
  obtain ⟨x,h1,h2,h3,h4⟩:=r.tl k p h
  refine ⟨x,by rw [ht];exact h1,h2,h3,λb o hi=> ?_⟩
  obtain ⟨h5,h6,h7,h8⟩:=h4 b o hi
  refine ⟨h5,h6,by rw [hs];exact h7,λhb=> ?_⟩
  rcases (hf b hb).2 with h9 | h9
  ·exact h8 h9
  ·exact h9.2 k x h1 (.inl ⟨o,hi⟩)
 ·intro k hk;rw [ht];exact r.tout k hk
 ·intro i j x y b h1 h2;rw [ht] at h1 h2;exact r.tinj i j x y b h1 h2
 ·intro i oi b k x h1 l1 b1 hx;rw [ho] at b1;rw [ht] at hx;exact r.tobj i oi b k x h1 l1 b1 hx
 ·intro k x hx
  rw [ht] at hx
  intro h1 h2
  obtain ⟨h3,h4,h5,h6,h7⟩:=r.own k x hx h1 h2
  refine ⟨h3,h4,h5,h6,λhb=> ?_⟩
  rcases (hf x.b hb).2 with h8 | h8
  ·exact h7 h8
  ·exact h8.2 k x hx (.inr ⟨h1,h2,rfl⟩)
 ·intro k x hx;rw [ht] at hx;exact r.own0 k x hx
 ·intro k x hx;rw [ht] at hx;exact r.tlo k x hx
theorem RW.lessFr {g g':Gh}{T:VT}{w:World}(r:RW g T w)(ho:g'.obj=g.obj)(hs:g'.st=g.st)(ht:g'.tail=g.tail)(hf:∀b,g'.fr b→g.fr b):RW g' T w:=
 r.frs ho hs ht λb h=>⟨r.fr b (hf b h),.inl (hf b h)⟩
theorem Evo.base {g g1:Gh}{w w1:World}{B:Nat→Prop}(e:Evo (gP g B) w g1 w1):∃g',g1=gP g' B∧g'.fr=g.fr∧Evo g w g' w1∧(∀b,B b→w1.heap[b]?=w.heap[b]?)∧∀b o,B b→g'.st b o→g.st b o:=by
 have hfr:=e.fr
 refine ⟨{g1 with fr:=g.fr},?_,rfl,⟨e.os,e.tape,e.output,e.size,e.obj,e.st,rfl,λb hb=>e.frb b (.inl hb),λb o hb h=>e.frs b o (.inl hb) h,e.tail,e.tnew,e.csz⟩,λb hb=>e.frb b (.inr hb),λb o hb h=>e.frs b o (.inr hb) h⟩
 cases g1
 simp only [gP] at hfr ⊢
 rw [hfr]
theorem RW.off {g:Gh}{T:VT}{w w':World}{b:Nat}(r:RW g T w)(hfr:g.fr b)(hst:∀o,¬g.st b o)(hos:w'.os=w.os∧w'.tape=w.tape∧w'.output=w.output)(hsz:w'.heap.size=w.heap.size)(hoth:∀c,c≠b→w'.heap[c]?=w.heap[c]?)(hcs:bI w' b=bI w b):
  RW g T w'∧∀g0:Gh,g0.st=g.st→¬g0.fr b→Evo g0 w g0 w':=by
 have cellne:∀c p,c≠b→w'.cell? ⟨c,p,none⟩=w.cell? ⟨c,p,none⟩:=λc p hc=>by unfold World.cell?;simp only [hoth c hc]
 have frzne:∀c p,c≠b→w'.frozen? ⟨c,p,none⟩=w.frozen? ⟨c,p,none⟩:=λc p hc=>by unfold World.frozen?;simp only [hoth c hc]
 have csz:∀c,bI w' c=bI w c:=λc=>by
  by_cases hc:c=b
  ·subst hc;exact hcs
  ·unfold bI;rw [hoth c hc]
 have ev:∀g0:Gh,g0.st=g.st→¬g0.fr b→Evo g0 w g0 w':=λg0 h1 h2=>
  ⟨hos.1,hos.2.1,hos.2.2,by omega,λ_ _ h=>h,λc p hs=>⟨hs,cellne c p (by rintro rfl;rw [h1] at hs;exact hst p hs)⟩,rfl,λc hc=>hoth c (by rintro rfl;exact h2 hc),λ_ _ _ h=>h,λ_ x h=>⟨x,h,.inl rfl,rfl,rfl⟩,(λ_ _ h h'=>nomatch (h.symm.trans h')),λc _=>csz c⟩
 refine ⟨?_,ev⟩
 have e0:Evo {g with fr:=λc=>g.fr c∧c≠b} w {g with fr:=λc=>g.fr c∧c≠b} w':=ev _ rfl (λh=>h.2 rfl)
 refine ⟨?_,r.inj,r.out,?_,λc h=>by rw [hsz];exact r.fr c h,?_,r.tout,r.tinj,r.tobj,?_,r.own0,λk x hx=>by rw [hsz];exact r.tlo k x hx⟩
 ·intro id o h hl
  obtain ⟨c,h1,h2,h3,h4⟩:=r.obj id o h hl
  have hcb:c≠b:=by rintro rfl;exact h3 hfr
  refine ⟨c,h1,?_,h3,h4⟩
  have h5:OR {g with fr:=λc=>g.fr c∧c≠b} w c o:=OR.gh (g:=g) (g':={g with fr:=λc=>g.fr c∧c≠b}) rfl rfl rfl h2
  exact OR.gh (g:={g with fr:=λc=>g.fr c∧c≠b}) (g':=g) rfl rfl rfl (OR.mono e0 (hoth c hcb) h5)
 ·intro c o h
  have hcb:c≠b:=by rintro rfl;exact hst o h
  rw [cellne c o hcb];exact r.st c o h
 ·intro k p h
  obtain ⟨x,h1,h2,h3,h4⟩:=r.tl k p h
  refine ⟨x,h1,h2,h3,λc o hi=> ?_⟩
  obtain ⟨h5,h6,h7,h8⟩:=h4 c o hi
  have hcb:c≠b:=by rintro rfl;exact h8 hfr
  exact ⟨by rw [cellne c o hcb];exact h5,by rw [frzne c o hcb];exact h6,h7,h8⟩
 ·intro k x hx h1 h2
  obtain ⟨⟨cur,h3,h3'⟩,h4,h5,h6,h7⟩:=r.own k x hx h1 h2
  have hcb:x.b≠b:=λe=>h7 (e▸hfr)
  exact ⟨⟨cur,by rw [hoth _ hcb];exact h3,h3'⟩,h4,h5,h6,h7⟩
structure In (P:Program) (o:Oper) (blk:Obj) (f:Nat→Value) (vo:VO) (mk:Nat→TV):Prop where
 run:∀(ρ:Operand→Value) w,(∀v,ρ (.const v)=v)→(execOp ρ o).run P w=.ok (.value (f w.heap.size)) (w.alloc blk)
 live:vo.live=true
 or:∀g w b,w.heap[b]?=some blk→OR g w b vo
 vr:∀g w id b,g.obj id=some b→b<w.heap.size→w.heap[b]?=some blk→VR g w (mk id) (f b)
theorem Io {o:Oper}{T0:VT}(h:(iw P T0 o.op).isSome=true):∃blk f vo mk,In P o blk f vo mk∧∀T,iw P T o.op=some (mk T.objs.length,{T with objs:=T.objs++ [vo]}):=by
 obtain ⟨dst,op,ty,pos,af,gd⟩:=o
 simp only at h
 cases op<;>simp only [iw] at h<;>try (cases h)
 case alloc t=>
  unfold mq at h
  cases hi:P.info? t with
  |none=>rw [hi] at h;cases h
  |some i=>
   cases hz:i.zero with
   |none=>rw [hi] at h;simp only [hz] at h;cases h
   |some z=>
    rw [hi] at h
    simp only [hz,sk] at h
    by_cases hc:(z.cells.toList.map TV.val).all fQ=true
    ·refine ⟨.cells z.cells t,λb=>.pointer (some ⟨b,0,none⟩),.cells (z.cells.toList.map .val),λid=>.ptr id 0,⟨λρ w _=> ?_,rfl,λg w b hb=> ?_,λg w id b hb _ _=>.ptr hb⟩,λT=> ?_⟩
     ·simp [execOp,Instr.alloc,zeroValue,typeInfo,hi,hz,newVar,newRow]
     ·exact ⟨z.cells.toList,t,by simpa using hb,VRs.vals g w _,ky hc (VRs.vals g w _)⟩
     ·simp only [iw,mq,hi,hz,sk,hc,if_true]
    ·rw [if_neg hc] at h;cases h
 case makeMap t r=>
  cases r with
  |some r=>cases h
  |none=>
   simp only [lE] at h
   cases hu:P.underlying t with
   |none=>rw [hu] at h;cases h
   |some d=>
    rw [hu] at h
    cases d<;>simp only at h<;>try (cases h)
    rename_i kt et
    cases hs:dq P kt with
    |none=>rw [hs] at h;cases h
    |some sh=>
     refine ⟨.map #[] 0,λb=>.map (some b),.map sh (λ_=>none) [] 0,λid=>.map id,⟨λρ w _=> ?_,rfl,λg w b hb=> ?_,λg w id b hb _ _=>.map hb⟩,λT=> ?_⟩
     ·simp [execOp,Instr.makeMap,newObj,Sem.run]
     ·exact ⟨#[],hb,by simp,by simpa using VRs.nil g _,by simp,by simp,by simp,λk _=>rfl⟩
     ·simp only [iw,lE,hu,hs]
 case makeSlice t l c=>
  cases l<;>try (cases h)
  rename_i l
  cases c<;>try (cases h)
  rename_i c
  replace h:(nV P T0 t (.val l) (.val c)).isSome=true:=h
  unfold nV at h
  split at h
  ·rename_i kl l' kc c' e h1 h2 hu
   injection h1 with h1;injection h2 with h2;subst h1 h2
   split at h
   ·rename_i i hi
    split at h
    ·rename_i z hz
     cases hb:(decide (0≤l')&&decide (l' ≤c')&&decide ((i.bytes:Int)*c' ≤281474976710656)&&decide (c' ≤140737488355328)&&z.cells.toList.all Value.oneCell' &&decide (0<z.cells.size)) with
     |false=>rw [hb] at h;cases h
     |true=>
      have hb':=hb
      simp only [and_eq_true,decide_eq_true_eq] at hb
      obtain ⟨⟨⟨⟨⟨h0,h1⟩,h2⟩,h3⟩,h4⟩,h5⟩:=hb
      have hlc:l'.toNat*i.size≤c'.toNat*i.size:=Nat.mul_le_mul_right _ (by omega)
      have hlen:((iH z.cells (l'.toNat*i.size)).map TV.val).length=l'.toNat*i.size:=by simp [iH]
      refine ⟨.cells (madeCells z.cells (c'.toNat*i.size)) e,λb=>.slice (some ⟨b,0,none⟩) l'.toNat c'.toNat,.row ((iH z.cells (l'.toNat*i.size)).map .val),λid=>.row i.size id 0 l'.toNat,⟨λρ w hρ=> ?_,rfl,λg w b hb=> ?_,λg w id b hb hlt hblk=> ?_⟩,λT=> ?_⟩
      ·have hrun:=run_make (P:=P) w t e i z hu hi hz kl kc l' c' h0 h1 h2 (by omega)
       simp [execOp,hρ,hrun]
      ·refine ⟨(madeCells z.cells (c'.toNat*i.size)).toList,e,by simpa using hb,?_,?_,?_⟩
       ·rw [hlen];simp [size_madeCells];exact hlc
       ·rw [hlen,oU hlc];exact VRs.vals g _ _
       ·intro u hu
        have hu:=List.mem_of_mem_take hu;rw [mem_toList_iff] at hu
        obtain ⟨j,hj,rfl⟩:=Array.getElem_of_mem hu
        have:(madeCells z.cells (c'.toNat*i.size))[j]=z.cells[j%z.cells.size]'(Nat.mod_lt _ h5):=by
         simp only [madeCells,Array.getElem_map,Array.getElem_range]
         exact getElem!_pos z.cells (j%z.cells.size) (Nat.mod_lt _ h5)
        rw [this]
        exact all_eq_true.1 h4 _ (mem_toList_iff.2 (getElem_mem _))
      ·have hcz:bI w b=c'.toNat*i.size:=by rw [bG hblk,size_madeCells]
       have:=VR.row (g:=g) (w:=w) (size:=i.size) (id:=id) (off:=0) (n:=l'.toNat) (b:=b) (c:=c'.toNat) hb hlt (by omega) (by unfold maxLen;omega) (by rw [hcz,zero_add])
       rw [Nat.zero_mul] at this
       exact this
      ·simp only [iw,nV,hu,hi,hz,hb',cond_true,VT.newRow]
    ·cases h
   ·cases h
  ·cases h
end
section
variable {P:Program}{G:aP}{F:gD}{ops:Array Oper}{r:Option Nat}
abbrev On (V:Array Bool)(k:Nat):Prop:=V.getD k false=true
theorem cn {V:Array Bool}{i k:Nat}(h:On V k):On (V.setIfInBounds i true) k:=getD_set_true h
theorem kE {V:Array Bool}{i:Nat}(h:i<V.size):On (V.setIfInBounds i true) i:=by simp [On,h]
theorem bt {V:Array Bool}{i k:Nat}(h:i≠k)(hk:On (V.setIfInBounds i true) k):On V k:=by unfold On at*;rwa [getD_set_ne false h] at hk
theorem fI {V:Array Bool}{k:Nat}(h:V.getD k true=false):¬On V k:=by
 intro h'
 unfold On at h'
 rcases lt_or_ge k V.size with hk | hk
 ·simp [hk] at h h';rw [h] at h';cases h'
 ·simp [Array.getElem?_eq_none hk] at h'
theorem Ip {V:Array Bool}{k:Nat}(hk:k<V.size)(h:¬On V k):V.getD k true=false:=by
 unfold On at h
 simp [hk] at h ⊢;exact h
theorem bS:∀{l:List Nat} {i:Nat},inList l i=true ↔ i∈l
 |[],i=>by simp [inList]
 |a::l,i=>by
  simp only [inList,or_eq_true,mem_cons,bS (l:=l)]
  constructor
  ·rintro (h | h)
   ·exact .inl (eq_of_beq_eq_true h).symm
   ·exact .inr h
  ·rintro (h | h)
   ·subst h;exact .inl (beq_refl i)
   ·exact .inr h
theorem zQ (L:List Nat):∀(n:Nat) (σ:List TV) (s:Nat),(o8 L n σ)[s]?=(σ[s]?).map λx=>bif inList L (n+s) then x else .dead
 |_,[],s=>by simp [o8]
 |n,x::σ,0=>by simp [o8]
 |n,x::σ,s+1=>by
  simp only [o8,List.getElem?_cons_succ]
  rw [zQ L (n+1) σ s,show n+1+s=n+(s+1) by omega]
theorem n7 (o:Oper)(σ:List TV)(s:Nat):(only ops o σ)[s]?=(σ[s]?).map λx=>bif inList (o.looksAt ops) s then x else .dead:=by
 have:=zQ (o.looksAt ops) 0 σ s
 rw [zero_add] at this;exact this
theorem K0 (o:Oper)(σ:List TV):(only ops o σ).length=σ.length:=by
 have key:∀(L:List Nat) (n:Nat) (σ:List TV),(o8 L n σ).length=σ.length:=by
  intro L n σ
  induction σ generalizing n with
  |nil=>rfl
  |cons x σ ih=>simp [o8,ih]
 exact key _ _ _
theorem lL (σ:List TV)(d:Option Tmp)(y:TV)(s:Nat):(bv σ d y)[s]?=if d=some s∧s<σ.length then some y else σ[s]?:=by
 cases d with
 |none=>simp [bv]
 |some d=>
  simp only [bv,getElem?_set]
  by_cases h:d=s
  ·subst h
   by_cases hl:d<σ.length
   ·simp [hl]
   ·simp [hl,getElem?_eq_none (Nat.le_of_not_lt hl)]
  ·simp [h]
theorem vS (σ:List TV)(d:Option Tmp)(y:TV):(bv σ d y).length=σ.length:=by cases d<;>simp [bv]
theorem nH (a:Act)(d:Option Tmp)(v:Value)(s:Nat):(a.put d v).tmps.toList[s]?=if d=some s∧s<a.tmps.toList.length then some v else a.tmps.toList[s]?:=by
 cases d with
 |none=>simp [Act.put]
 |some d=>
  simp only [Act.put,Array.toList_setIfInBounds,getElem?_set]
  by_cases h:d=s
  ·subst h
   by_cases hl:d<a.tmps.size
   ·simp [hl]
   ·simp [hl,Array.getElem?_eq_none (Nat.le_of_not_lt hl)]
  ·simp [h]
theorem EB (a:Act)(d:Option Tmp)(v:Value):(a.put d v).tmps.toList.length=a.tmps.toList.length:=by cases d<;>simp [Act.put]
theorem n8 {o:Oper}{σ:List TV}{d:Option Tmp}{y:TV}(h:∀s,d=some s→inList (o.looksAt ops) s=false):only ops o (bv σ d y)=only ops o σ:=by
 apply ext_getElem?
 intro s
 rw [n7,n7,lL]
 by_cases hs:d=some s∧s<σ.length
 ·rw [if_pos hs,h s hs.1,getElem?_eq_getElem hs.2];rfl
 ·rw [if_neg hs]
theorem eG (h:nX ops=true){i:Nat}{o:Oper}{d:Tmp}(hi:ops[i]?=some o)(hd:o.dst=some d):
  inList (o.looksAt ops) d=false∧∀(j:Nat) oj,ops[j]?=some oj→j≠i→oj.dst≠some d∧(inList (oj.looksAt ops) d=true→∃e∈oj.after,binds .any e=true∧e.on=i):=by
 have hlt:=(Array.getElem?_eq_some_iff.1 hi).1
 have h1:=all_eq_true.1 h i (mem_range.2 hlt)
 simp only [hi,hd,and_eq_true,not_eq_true'] at h1
 refine ⟨h1.1,λj oj hj hne=> ?_⟩
 have h2:=all_eq_true.1 h1.2 j (mem_range.2 (Array.getElem?_eq_some_iff.1 hj).1)
 simp only [hj,or_eq_true,and_eq_true,not_eq_true'] at h2
 rcases h2 with h2 | ⟨h2,h3⟩
 ·exact absurd (eq_of_beq_eq_true h2) hne
 ·refine ⟨λe=> ?_,λhl=> ?_⟩
  ·rw [e] at h2;simp at h2
  ·rcases h3 with h3 | h3
   ·rw [hl] at h3;cases h3
   ·obtain ⟨e,he,h4⟩:=any_eq_true.1 h3
    simp only [and_eq_true] at h4
    exact ⟨e,mem_toList_iff.1 he,h4.1,eq_of_beq_eq_true h4.2⟩
theorem n9 (h:nX ops=true){X:Array Bool}{j:Nat}{oj:Oper}(hj:ops[j]?=some oj)(hdeps:∀e∈oj.after,binds .any e=true→On X e.on){s:Nat}(hs:inList (oj.looksAt ops) s=true){k:Nat}{ok:Oper}(hk:ops[k]?=some ok)(hd:ok.dst=some s):k≠j∧On X k:=by
 obtain ⟨h1,h2⟩:=eG h hk hd
 by_cases hkj:j=k
 ·subst hkj
  rw [hj] at hk;injection hk with hk;subst hk
  rw [hs] at h1;cases h1
 ·obtain ⟨e,he,hb,hon⟩:=(h2 j oj hj hkj).2 hs
  exact ⟨λh=>hkj h.symm,hon▸hdeps e he hb⟩
def RelV (ops:Array Oper)(V R:Array Bool)(g:Gh)(w:World)(σ:List TV)(tm:List Value):Prop:=
 tm.length=σ.length∧∀(s:Nat) x u,σ[s]?=some x→tm[s]?=some u→(∀(k:Nat) o,ops[k]?=some o→o.dst=some s→On V k∧On R k)→VR g w x u
theorem RelV.only {V R:Array Bool}{g:Gh}{w:World}{σ:List TV}{tm:List Value}(h:RelV ops V R g w σ tm){o:Oper}(hl:∀s,inList (o.looksAt ops) s=true→∀(k:Nat) ok,ops[k]?=some ok→ok.dst=some s→On V k∧On R k):VRs g w (only ops o σ) tm:=by
 refine ⟨by rw [K0];exact h.1,λs x u hx hu=> ?_⟩
 rw [n7] at hx
 cases hs:σ[s]? with
 |none=>rw [hs] at hx;cases hx
 |some z=>
  rw [hs] at hx
  simp only [map_some,Option.some.injEq] at hx
  cases hb:inList (o.looksAt ops) s with
  |true=>rw [hb] at hx;simp only [cond_true] at hx;subst hx;exact h.2 s z u hs hu (hl s hb)
  |false=>rw [hb] at hx;simp only [cond_false] at hx;subst hx;exact .dead u
def Owed (P:Program)(G:aP)(ops:Array Oper)(T0:VT)(pend:List Nat)(k:Nat)(o:Oper)(σ:List TV):Prop:=ci o.op=true∧
 ((bP ops (only ops o σ) o=some false∧∀d x,o.dst=some d→σ[d]?=some x→x=.val undef)∨
 (bP ops (only ops o σ) o=some true∧∃y,(∀d x,o.dst=some d→σ[d]?=some x→x=y)∧(kW P G ⟨[],[]⟩ o (only ops o σ) y∨(k∈pend∧aW P o.op (bb G (only ops o σ))=none∧aY P T0 o.op (bb G (only ops o σ))=some y))))
def PB (prot:Nat→Option Nat)(b:Nat):Prop:=∃k,prot k=some b
def FlSt (P:Program)(G:aP)(ops:Array Oper)(σ:List TV)(R:Array Bool)(g:Gh)(w:World)(tm:List Value)(prot:Nat→Option Nat)(i:Nat)(jo:Option Nat):Prop:=
 ∃o d b,ops[i]?=some o∧o.dst=some d∧prot i=some b∧(match jo with
  |none=>∃blk f vo mk,In P o blk f vo mk∧(∀T,iw P T o.op=some (mk T.objs.length,{T with objs:=T.objs++ [vo]}))∧w.heap[b]?=some blk∧∀u,tm[d]?=some u→u=f b
  |some j=>∃oj t us inf,ops[j]?=some oj∧w.heap[b]?=some (.cells us.toArray t (0,0))∧(∀u,tm[d]?=some u→u=.pointer (some ⟨b,0,none⟩))∧o.op=.alloc t∧P.info? t=some inf∧us.length=inf.size∧
   (On R j→∃new,nE P o.op oj.op (bb G (only ops oj σ))=some new∧VRs g w new us∧∀u∈us,u.oneCell'=true))
structure VInv (P:Program) (G:aP) (ops:Array Oper) (flo:List (Nat × Option Nat)) (σ:List TV) (T T0:VT) (V R:Array Bool) (pend:List Nat) (g:Gh) (w:World) (tm:List Value) (prot:Nat→Option Nat):Prop where
 vs:V.size=ops.size
 rs:R.size=ops.size
 cv:Closed ops V
 cr:Closed ops R
 rv:∀k,On R k→¬On V k→k∈cg flo
 vf:∀k∈cg flo,On V k→On R k
 vb:∀i j,(i,some j)∈flo→(On V i ↔ On V j)
 rel:RelV ops V R g w σ tm
 own:∀(k:Nat) o,ops[k]?=some o→On V k→¬On R k→Owed P G ops T0 pend k o σ
 flt:∀i jo,(i,jo)∈flo→On R i→¬On V i→FlSt P G ops σ R g w tm prot i jo
 pr:∀k b,prot k=some b→(∃jo,(k,jo)∈flo)∧On R k∧¬On V k∧¬g.fr b∧(∀o,¬g.st b o)∧b<w.heap.size
 pinj:∀i j b,prot i=some b→prot j=some b→i=j
 rw:RW (gP g (PB prot)) T w
 t0:T.objs.take T0.objs.length=T0.objs
structure VStat (P:Program) (ops:Array Oper) (flo:List (Nat × Option Nat)):Prop where
 flow:dT ops=true
 once:nX ops=true
 dup:wV (cg flo)=true
 flo:Ig P ops flo (cg flo)=true
theorem q9:∀{l:List Nat},wV l=true→l.Nodup
 |[],_=>List.nodup_nil
 |a::l,h=>by
  simp only [wV,and_eq_true,not_eq_true'] at h
  exact nodup_cons.2 ⟨fS h.1,q9 h.2⟩
theorem cq:∀{flo:List (Nat × Option Nat)} {k:Nat},k∈cg flo ↔ ∃i jo,(i,jo)∈flo∧(k=i∨jo=some k)
  |[],k=>by simp [cg]
  | (i,none)::l,k=>by
    simp only [cg,mem_cons,cq (flo:=l)]
    constructor
    · rintro (rfl | ⟨i',jo,h1,h2⟩)
      · exact ⟨k,none,.inl rfl,.inl rfl⟩
      · exact ⟨i',jo,.inr h1,h2⟩
    · rintro ⟨i',jo,h1 | h1,h2⟩
      · injection h1 with h1 h3;subst h1 h3
        rcases h2 with h2 | h2
        · exact .inl h2
        · cases h2
      · exact .inr ⟨i',jo,h1,h2⟩
  | (i,some j)::l,k=>by
    simp only [cg,mem_cons,cq (flo:=l)]
    constructor
    · rintro (rfl | rfl | ⟨i',jo,h1,h2⟩)
      · exact ⟨k,some j,.inl rfl,.inl rfl⟩
      · exact ⟨i,some k,.inl rfl,.inr rfl⟩
      · exact ⟨i',jo,.inr h1,h2⟩
    · rintro ⟨i',jo,h1 | h1,h2⟩
      · injection h1 with h1 h3;subst h1 h3
        rcases h2 with h2 | h2
        · exact .inl h2
        · injection h2 with h2;exact .inr (.inl h2.symm)
      · exact .inr (.inr ⟨i',jo,h1,h2⟩)
theorem gf:∀{flo:List (Nat × Option Nat)},(cg flo).Nodup→∀{i jo i' jo' k},(i,jo)∈flo→(i',jo')∈flo→(k=i∨jo=some k)→(k=i' ∨jo'=some k)→i=i'∧jo=jo'
  |[],_,_,_,_,_,_,h,_,_,_=>by cases h
  | (a,b)::l,hn,i,jo,i',jo',k,h1,h2,k1,k2=>by
    have hl:(cg l).Nodup∧∀k,(k=a∨b=some k)→k∉cg l:=by
      cases b with
      |none=>
        have:=nodup_cons.1 hn
        refine ⟨this.2,λk hk=> ?_⟩
        rcases hk with rfl | hk
        · exact this.1
        · cases hk
      |some j=>
        have h3:=nodup_cons.1 hn
        have h4:=nodup_cons.1 h3.2
        refine ⟨h4.2,λk hk=> ?_⟩
        rcases hk with rfl | hk
        · exact λh=>h3.1 (mem_cons_of_mem _ h)
        · injection hk with hk;subst hk;exact h4.1
    rcases mem_cons.1 h1 with e1 | m1<;>rcases mem_cons.1 h2 with e2 | m2
    · injection e1 with e1 e1';injection e2 with e2 e2';subst e1 e1' e2 e2';exact ⟨rfl,rfl⟩
    · injection e1 with e1 e1';subst e1 e1'
      exact absurd ((cq (flo:=l)).2 ⟨i',jo',m2,k2⟩) (hl.2 k k1)
    · injection e2 with e2 e2';subst e2 e2'
      exact absurd ((cq (flo:=l)).2 ⟨i,jo,m1,k1⟩) (hl.2 k k2)
    · exact gf hl.1 m1 m2 k1 k2
theorem VStat.at {flo:List (Nat × Option Nat)}(st:VStat P ops flo){i:Nat}{jo:Option Nat}(h:(i,jo)∈flo):∃o,ops[i]?=some o∧qd P o=true∧∀j,jo=some j→∃oj,ops[j]?=some oj∧qe P o oj=true∧(∃e∈oj.after,binds .any e=true∧e.on=i)∧∀e∈oj.after,binds .any e=true→e.on=i∨e.on∉cg flo∨boxStore flo e.on=true:=by
 have h1:=all_eq_true.1 st.flo (i,jo) h
 simp only at h1
 split at h1
 ·rename_i o ho
  simp only [and_eq_true] at h1
  refine ⟨o,ho,h1.1,λj hj=> ?_⟩
  subst hj
  have h2:=h1.2
  simp only at h2
  split at h2
  ·rename_i oj hoj
   simp only [and_eq_true] at h2
   obtain ⟨⟨h3,h4⟩,h5⟩:=h2
   obtain ⟨e,he,h6⟩:=any_eq_true.1 h4
   simp only [and_eq_true] at h6
   refine ⟨oj,hoj,h3,⟨e,mem_toList_iff.1 he,h6.1,eq_of_beq_eq_true h6.2⟩,λe he hb=> ?_⟩
   have h7:=all_eq_true.1 h5 e (mem_toList_iff.2 he)
   simp only [hb,Bool.not_true,Bool.false_or,or_eq_true,not_eq_true'] at h7
   rcases h7 with (h7 | h7) | h7
   ·exact .inl (eq_of_beq_eq_true h7)
   ·exact .inr (.inl (fS h7))
   ·exact .inr (.inr h7)
  ·cases h2
 ·cases h1
theorem B2 {flo:List (Nat × Option Nat)}{k:Nat}(h:boxStore flo k=true):∃i,(i,some k)∈flo:=by
 obtain ⟨p,hp,h1⟩:=any_eq_true.1 h
 obtain ⟨i,jo⟩:=p
 cases jo with
 |none=>cases h1
 |some j=>
  have:=eq_of_beq_eq_true h1
  subst this
  exact ⟨i,hp⟩
theorem RelV.step {V R:Array Bool}{g g':Gh}{w w':World}{σ:List TV}{a:Act}(h:RelV ops V R g w σ a.tmps.toList)(e:Evo g w g' w'){j:Nat}{o:Oper}(ho:ops[j]?=some o){v:Value}
  (hx:∀d x,o.dst=some d→σ[d]?=some x→On V j→VR g' w' x v):RelV ops V (R.setIfInBounds j true) g' w' σ (a.put o.dst v).tmps.toList:=by
 refine ⟨by rw [EB];exact h.1,λs x u hs hu hw=> ?_⟩
 rw [nH] at hu
 by_cases hd:o.dst=some s∧s<a.tmps.toList.length
 ·rw [if_pos hd] at hu
  injection hu with hu;subst hu
  exact hx s x hd.1 hs (hw j o ho hd.1).1
 ·rw [if_neg hd] at hu
  refine (h.2 s x u hs hu λk ok hk hdk=> ?_).mono e
  obtain ⟨h1,h2⟩:=hw k ok hk hdk
  refine ⟨h1,bt (λhjk=> ?_) h2⟩
  subst hjk
  rw [ho] at hk;injection hk with hk;subst hk
  exact hd ⟨hdk,(List.getElem?_eq_some_iff.1 hu).1⟩
theorem FlSt.step {σ:List TV}{R R':Array Bool}{g g':Gh}{w w':World}{a:Act}{prot prot':Nat→Option Nat}{i:Nat}{jo:Option Nat}(h:FlSt P G ops σ R g w a.tmps.toList prot i jo)(e:Evo g w g' w')(hh:∀b,prot i=some b→w'.heap[b]?=w.heap[b]?)(hp:prot' i=prot i)
  {d':Option Tmp} {v:Value} (hd:∀o d,ops[i]?=some o→o.dst=some d→d' ≠some d) (hr:∀j,jo=some j→On R' j→On R j):FlSt P G ops σ R' g' w' (a.put d' v).tmps.toList prot' i jo:=by
 obtain ⟨o,d,b,h1,h2,h3,h4⟩:=h
 have ht:∀u,(a.put d' v).tmps.toList[d]?=some u→a.tmps.toList[d]?=some u:=λu hu=>by
  rw [nH,if_neg λk=>hd o d h1 h2 k.1] at hu;exact hu
 refine ⟨o,d,b,h1,h2,hp.trans h3,?_⟩
 cases jo with
 |none=>
  obtain ⟨blk,f,vo,mk,k1,k2,k3,k4⟩:=h4
  exact ⟨blk,f,vo,mk,k1,k2,(hh b h3).trans k3,λu hu=>k4 u (ht u hu)⟩
 |some j=>
  obtain ⟨oj,t,us,inf,k1,k2,k3,k4,k5,k6,k7⟩:=h4
  refine ⟨oj,t,us,inf,k1,(hh b h3).trans k2,λu hu=>k3 u (ht u hu),k4,k5,k6,λhj=> ?_⟩
  obtain ⟨new,q1,q2,q3⟩:=k7 (hr j rfl hj)
  exact ⟨new,q1,q2.mono e,q3⟩
end
section
variable {P:Program}{G:aP}{F:gD}{ops:Array Oper}{r:Option Nat}{flo:List (Nat × Option Nat)}{σ:List TV}{T T0:VT}{V R:Array Bool}{pend:List Nat}{g:Gh}{w:World}{a:Act}{prot:Nat→Option Nat}
theorem u9 {QQ:Exit→Act→World→Prop}{j:Nat}{o:Oper}(ho:ops[j]?=some o)(hw:wanted o (yielded ops a.tmps)=false){K:Act→World→Prop}(h:K (a.put o.dst undef) w):wpOpIn (ct r) 0 P ops QQ j K a w:=by
 unfold wpOpIn
 simp only [ho]
 rw [if_neg (by rw [hw];exact Bool.false_ne_true)]
 exact ⟨λ_ _=>trivial,h⟩
theorem ra {QQ:Exit→Act→World→Prop}{j:Nat}{o:Oper}(hd:ci o.op=true)(ho:ops[j]?=some o)(hw:wanted o (yielded ops a.tmps)=true){m:Next}{v:Value}{w':World}(hrun:(execOp a.eval o).run P w=.ok m w')(hv:iu m=some v)
  {K:Act→World→Prop} (h:∀v,iu m=some v→K (a.put o.dst v) w'):wpOpIn (ct r) 0 P ops QQ j K a w:=by
 have hne:∀c,o.op≠ .defer c:=λc hc=>by rw [hc] at hd;cases hd
 unfold wpOpIn
 simp only [ho]
 rw [if_pos hw]
 refine ⟨λ_ _=>trivial,?_⟩
 rw [Oper.semAt_eq _ _ _ hne,hrun]
 cases m<;>simp only [iu] at hv<;>try (cases hv)
 ·exact h _ rfl
 ·exact h _ rfl
theorem GOk.toP {B:Nat→Prop}(h:GOk G g w):GOk G (gP g B) w:=λn cs hn=>(h n cs hn).toP
theorem va {o:Oper}(h:o.guard.isNone=true):wanted o (yielded ops a.tmps)=true:=by
 unfold wanted
 cases hg:o.guard with
 |none=>rfl
 |some x=>rw [hg] at h;cases h
theorem B3 {n:Nat}{w':World}{g0:Gh}{B:Nat→Prop}(h:Same (gP g0 B) T w w'):Fix n g0 T w T w':=
 ⟨le_refl _,λ_ _ _=>rfl,λi o b _ ho hl hb=>h.obj i o b ho hl hb⟩
theorem VInv.base (inv:VInv P G ops flo σ T T0 V R pend g w a.tmps.toList prot):RW g T w:=inv.rw.lessFr rfl rfl rfl λ_ h=>.inl h
theorem pd (st:VStat P ops flo)(inv:VInv P G ops flo σ T T0 V R pend g w a.tmps.toList prot)(hG:GOk G g w){QQ:Exit→Act→World→Prop}{K:Act→World→Prop}{j:Nat}(hj:j∈ready .any ops R)(hV:On V j)
  (next:∀g' w' (a':Act),VInv P G ops flo σ T T0 V (R.setIfInBounds j true) pend g' w' a'.tmps.toList prot→Evo g w g' w'→(∀n,Fix n g T w T w')→a'.defers=a.defers→K a' w'):wpOpIn (ct r) 0 P ops QQ j K a w:=by
 obtain ⟨hun,o,ho,hdep⟩:=mem_ready.1 hj
 have hnR:=fI hun
 have hjs:j<R.size:=by rw [inv.rs];exact (Array.getElem?_eq_some_iff.1 ho).1
 have hdepV:∀e∈o.after,binds .any e=true→On V e.on:=λe he hb=>inv.cv j o ho hV e he hb
 have hl:∀s,inList (o.looksAt ops) s=true→∀(k:Nat) ok,ops[k]?=some ok→ok.dst=some s→On V k∧On R k:=λs hs k ok hk hd=>
  ⟨(n9 st.once ho hdepV hs hk hd).2,(n9 st.once ho hdep hs hk hd).2⟩
 have hσ:=inv.rel.only hl
 obtain ⟨hnd,how⟩:=inv.own j o ho hV hnR
 have hjF:j∉cg flo:=λhm=>hnR (inv.vf j hm hV)
 have key:∀(g':Gh) (w':World) (v:Value),Evo g w g' w'→g'.fr=g.fr→RW (gP g' (PB prot)) T w'→(∀b,PB prot b→w'.heap[b]?=w.heap[b]?)→(∀b o,PB prot b→g'.st b o→g.st b o)→(∀d x,o.dst=some d→σ[d]?=some x→VR g' w' x v)→(∀n,Fix n g T w T w')→K (a.put o.dst v) w':=by
  intro g' w' v e hfr hrw hB hst hx hfix
  refine next g' w' _ ?_ e hfix (cp _ _ _)
  refine ⟨inv.vs,by simpa using inv.rs,inv.cv,inv.cr.set hj,?_,λk hk hv=>cn (inv.vf k hk hv),inv.vb,inv.rel.step e ho λd x hd hs _=>hx d x hd hs,?_,?_,?_,inv.pinj,hrw,inv.t0⟩
  ·intro k hk hnv
   by_cases hjk:j=k
   ·subst hjk;exact absurd hV hnv
   ·exact inv.rv k (bt hjk hk) hnv
  ·intro k ok hk hv hnr
   exact inv.own k ok hk hv λh=>hnr (cn h)
  ·intro i jo hi hri hnvi
   have hne:j≠i:=λh=>hnvi (h▸hV)
   refine (inv.flt i jo hi (bt hne hri) hnvi).step e (λb hb=>hB b ⟨i,hb⟩) rfl (λo' d' h1 h2 h3=> ?_) (λjj hjj hr=> ?_)
   ·exact ((eG st.once h1 h2).2 j o ho hne).1 h3
   ·subst hjj
    refine bt (λh=> ?_) hr
    subst h
    exact hjF (cq.2 ⟨i,some j,hi,.inr rfl⟩)
  ·intro k b hk
   obtain ⟨h1,h2,h3,h4,h5,h6⟩:=inv.pr k b hk
   exact ⟨h1,cn h2,h3,by rw [hfr];exact h4,λo hs=>h5 o (hst b o ⟨k,hk⟩ hs),Nat.lt_of_lt_of_le h6 e.size⟩
 rcases how with ⟨hw,hu⟩ | ⟨hw,y,hy,hsem⟩
 ·refine u9 ho (i8 hw hσ) ?_
  exact key g w undef (Evo.refl _ _) rfl inv.rw (λ_ _=>rfl) (λ_ _ _ h=>h) (λd x hd hs=>by rw [hu d x hd hs];exact .val _) (λn=>Fix.refl _ _ _ _)
 ·have hρ:∀x,VR (gP g (PB prot)) w (bb G (only ops o σ) x) (a.eval x):=eW hG.toP (VRs.gh (g:=g) (g':=gP g (PB prot)) rfl rfl rfl hσ)
  have hs:∃Tp:VT,T.objs.take Tp.objs.length=Tp.objs∧kW P G Tp o (only ops o σ) y:=by
   rcases hsem with h | ⟨_,_,h⟩
   ·exact ⟨⟨[],[]⟩,KY T,h⟩
   ·exact ⟨T0,inv.t0,KZ h⟩
  obtain ⟨Tp,hTp,hsem⟩:=hs
  obtain ⟨m,v,g1,w1,h1,h2,h3,h4,h5,h6⟩:=hsem (gP g (PB prot)) w a.eval T hTp inv.rw hρ
  obtain ⟨g',rfl,hfr,e,hB,hst⟩:=h4.base
  refine ra hnd ho (i8 hw hσ) h1 h2 λv' hv'=> ?_
  rw [h2] at hv';injection hv' with hv';subst hv'
  exact key g' w1 v e hfr h5 hB hst (λd x hd hs=>by rw [hy d x hd hs];exact h3.ofP) (λn=>B3 h6)
theorem pf {o oj:Oper}(hb:qe P o oj=true)(hl:qd P o=true):∃(d:Tmp) (t:TypeId) (inf:TypeInfo) (us:List Value) (x:Operand),o.dst=some d∧o.op=.alloc t∧oj.op=.store t (.tmp d) x∧oj.guard.isNone=true∧oj.dst=none∧x≠ .tmp d∧P.info? t=some inf∧us.length=inf.size∧
  ∀(ρ:Operand→Value) w,(execOp ρ o).run P w=.ok (.value (.pointer (some ⟨w.heap.size,0,none⟩))) (w.alloc (.cells us.toArray t)):=by
 unfold qe at hb
 split at hb
 ·rename_i d t t' d' x hd ho hoj
  simp only [and_eq_true] at hb
  obtain ⟨⟨⟨⟨⟨h1,h2⟩,h3⟩,h4⟩,h5⟩,h6⟩:=hb
  have h1:=eq_of_beq_eq_true h1
  have h2:=eq_of_beq_eq_true h2
  subst h1 h2
  split at h6
  ·rename_i inf hi
   split at h6
   ·rename_i z hz
    refine ⟨d,t,inf,z.cells.toList,x,hd,ho,hoj,h3,(by cases hq:oj.dst with | none=>rfl | some _=>rw [hq] at h4;cases h4),?_,hi,by simpa using eq_of_beq_eq_true h6,λρ w=> ?_⟩
    ·rintro rfl
     simp at h5
    ·obtain ⟨dst,op,ty,pos,af,gd⟩:=o
     simp only at ho;subst ho
     simp [execOp,Instr.alloc,zeroValue,typeInfo,hi,hz,newVar,newRow]
   ·cases h6
  ·cases h6
 ·cases hb
theorem Ec {o:Oper}(h:qd P o=true):(iw P ⟨[],[]⟩ o.op).isSome=true∧o.guard.isNone=true∧(∃d,o.dst=some d)∧ci o.op=true:=by
 simp only [qd,and_eq_true] at h
 exact ⟨h.1.1.1,h.1.1.2,Option.isSome_iff_exists.1 h.1.2,h.2⟩
theorem Gj (st:VStat P ops flo)(inv:VInv P G ops flo σ T T0 V R pend g w a.tmps.toList prot){QQ:Exit→Act→World→Prop}{K:Act→World→Prop}{i:Nat}{jo:Option Nat}(hf:(i,jo)∈flo)(hi:i∈ready .any ops R)(hV:¬On V i)
  (next:∀g' w' (a':Act) prot',VInv P G ops flo σ T T0 V (R.setIfInBounds i true) pend g' w' a'.tmps.toList prot'→Evo g w g' w'→(∀n,Fix n g T w T w')→a'.defers=a.defers→K a' w'):wpOpIn (ct r) 0 P ops QQ i K a w:=by
 obtain ⟨hun,o,ho,hdep⟩:=mem_ready.1 hi
 have hnR:=fI hun
 have hsz:i<R.size:=by rw [inv.rs];exact (Array.getElem?_eq_some_iff.1 ho).1
 obtain ⟨o',ho',hlate,hbox⟩:=st.at hf
 rw [ho] at ho';injection ho' with ho';subst ho'
 obtain ⟨hmk,hgd,⟨d,hd⟩,hnd⟩:=Ec hlate
 have hnd':=q9 st.dup
 --what it lays
 have lay:∃blk v0,(execOp a.eval o).run P w=.ok (.value v0) (w.alloc blk)∧∀tm':List Value,(∀u,tm'[d]?=some u→u=v0)→∀(g':Gh) (R':Array Bool) (prot':Nat→Option Nat),prot' i=some w.heap.size→(∀j,jo=some j→¬On R' j)→FlSt P G ops σ R' g' (w.alloc blk) tm' prot' i jo:=by
  cases jo with
  |none=>
   obtain ⟨blk,f,vo,mk,h1,h2⟩:=Io hmk
   refine ⟨blk,f w.heap.size,h1.run a.eval w λv=>rfl,λtm' htm g' R' prot' hp _=>⟨o,d,w.heap.size,ho,hd,hp,blk,f,vo,mk,h1,h2,heap_alloc_new w blk,htm⟩⟩
  |some j=>
   obtain ⟨oj,hoj,hb,_,_⟩:=hbox j rfl
   obtain ⟨d',t,inf,us,x,h1,h2,h3,h4,h5,h6,h7,h8,h9⟩:=pf hb hlate
   rw [hd] at h1;injection h1 with h1;subst h1
   exact ⟨_,_,h9 a.eval w,λtm' htm g' R' prot' hp hj=>⟨o,d,w.heap.size,ho,hd,hp,oj,t,us,inf,hoj,heap_alloc_new w _,htm,h2,h7,h8,λh=>absurd h (hj j rfl)⟩⟩
 obtain ⟨blk,v0,hrun,hlay⟩:=lay
 refine ra hnd ho (va hgd) hrun rfl λv' hv'=> ?_
 injection hv' with hv';subst hv'
 have hgr:Gr w (w.alloc blk):=(Gr.refl w).alloc _
 have e:=Evo.of_gr inv.base hgr
 have hsame:=Same.of_gr inv.rw hgr
 have hlt:w.heap.size<(w.alloc blk).heap.size:=(Array.getElem?_eq_some_iff.1 (heap_alloc_new w blk)).1
 have hnone:∀b,prot i≠some b:=λb hb=>hnR (inv.pr i b hb).2.1
 refine next g (w.alloc blk) _ (λk=>if k=i then some w.heap.size else prot k) ?_ e (λn=>B3 hsame) (cp _ _ _)
 have hpne:∀k,k≠i→(if k=i then some w.heap.size else prot k)=prot k:=λk hk=>if_neg hk
 refine ⟨inv.vs,by simpa using inv.rs,inv.cv,inv.cr.set hi,?_,λk hk hv=>cn (inv.vf k hk hv),inv.vb,inv.rel.step e ho λ_ _ _ _ h=>absurd h hV,?_,?_,?_,?_,?_,inv.t0⟩
 ·intro k hk hnv
  by_cases hik:i=k
  ·subst hik;exact cq.2 ⟨i,jo,hf,.inl rfl⟩
  ·exact inv.rv k (bt hik hk) hnv
 ·intro k ok hk hv hnr
  exact inv.own k ok hk hv λh=>hnr (cn h)
 ·intro i' jo' hf' hri hnv
  by_cases hii:i'=i
  ·subst hii
   obtain ⟨_,rfl⟩:=gf hnd' hf hf' (k:=i') (.inl rfl) (.inl rfl)
   refine hlay _ (λu hu=> ?_) g _ _ (if_pos rfl) λj hj hon=> ?_
   ·rw [nH] at hu
    by_cases hc:o.dst=some d∧d<a.tmps.toList.length
    ·rw [if_pos hc] at hu;injection hu with hu;exact hu.symm
    ·rw [if_neg hc] at hu
     exact absurd ⟨hd,(List.getElem?_eq_some_iff.1 hu).1⟩ hc
   ·obtain ⟨oj,hoj,_,⟨e1,he1,hb1,hon1⟩,_⟩:=hbox j hj
    have hne:i' ≠j:=by
     rintro rfl
     rw [ho] at hoj;injection hoj with hoj;subst hoj
     have:=(fj st.flow ho).1 e1 he1 hb1
     omega
    have:=inv.cr j oj hoj (bt hne hon) e1 he1 hb1
    rw [hon1] at this
    exact hnR this
  ·refine (inv.flt i' jo' hf' (bt (λh=>hii h.symm) hri) hnv).step e (λb hb=>hgr.heap (inv.pr i' b hb).2.2.2.2.2) (hpne i' hii) (λo' d' h1 h2 h3=> ?_) λjj hjj hr=> ?_
   ·exact ((eG st.once h1 h2).2 i o ho (λh=>hii h.symm)).1 h3
   ·subst hjj
    refine bt (λh=> ?_) hr
    subst h
    exact hii (gf hnd' hf' hf (k:=i) (.inr rfl) (.inl rfl)).1
 ·intro k b hk
  by_cases hki:k=i
  ·subst hki
   rw [if_pos rfl] at hk;injection hk with hk;subst hk
   have hfresh:=inv.rw.fresh (le_refl w.heap.size)
   exact ⟨⟨jo,hf⟩,kE hsz,hV,λh=>hfresh.fr (.inl h),hfresh.st,hlt⟩
  ·rw [if_neg hki] at hk
   obtain ⟨h1,h2,h3,h4,h5,h6⟩:=inv.pr k b hk
   exact ⟨h1,cn h2,h3,h4,h5,Nat.lt_trans h6 hlt⟩
 ·intro k k' b hk hk'
  by_cases hki:k=i<;>by_cases hki':k'=i
  ·omega
  ·subst hki
   rw [if_pos rfl] at hk;rw [if_neg hki'] at hk'
   injection hk with hk;subst hk
   have:=(inv.pr k' _ hk').2.2.2.2.2
   omega
  ·subst hki'
   rw [if_pos rfl] at hk';rw [if_neg hki] at hk
   injection hk' with hk';subst hk'
   have:=(inv.pr k _ hk).2.2.2.2.2
   omega
  ·rw [if_neg hki] at hk;rw [if_neg hki'] at hk'
   exact inv.pinj k k' b hk hk'
 ·have hfresh:=inv.rw.fresh (le_refl w.heap.size)
  refine RW.frs (inv.rw.gr hgr) rfl rfl rfl λb hb=> ?_
  rcases hb with hb | ⟨k,hk⟩
  ·exact ⟨Nat.lt_of_lt_of_le (inv.rw.fr b (.inl hb)) hgr.size,.inl (.inl hb)⟩
  ·replace hk:(if k=i then some w.heap.size else prot k)=some b:=hk
   by_cases hki:k=i
   ·rw [if_pos hki] at hk;injection hk with hk;subst hk
    exact ⟨hlt,.inr ⟨hfresh.obj,hfresh.tl⟩⟩
   ·rw [if_neg hki] at hk
    exact ⟨Nat.lt_trans (inv.pr k b hk).2.2.2.2.2 hlt,.inl (.inr ⟨k,hk⟩)⟩
end
section
variable {P:Program}{G:aP}{F:gD}{ops:Array Oper}{r:Option Nat}{flo:List (Nat × Option Nat)}{σ:List TV}{T T0:VT}{V R:Array Bool}{pend:List Nat}{g:Gh}{w:World}{a:Act}{prot:Nat→Option Nat}
theorem rc {flo0:List (Nat × Option Nat)}:∀{flo:List (Nat × Option Nat)},dr P G ops flo0 V σ flo=true→∀{i j},(i,some j)∈flo→¬On V i→uy ops flo0 (V.setIfInBounds i true) j=true→
    ∃o oj new d,ops[i]?=some o∧ops[j]?=some oj∧nE P o.op oj.op (bb G (only ops oj σ))=some new∧o.dst=some d∧d<σ.length
  |[],_,_,_,h,_,_=>by cases h
  | (i',none)::l,hb,i,j,h,hn,hd=>by
    simp only [dr] at hb
    rcases mem_cons.1 h with h | h
    · cases h
    · exact rc hb h hn hd
  | (i',some j')::l,hb,i,j,h,hn,hd=>by
    simp only [dr,and_eq_true] at hb
    rcases mem_cons.1 h with h | h
    · injection h with h1 h2;injection h2 with h2;subst h1 h2
      have h3:=hb.1
      have hn':V.getD i false=false:=by unfold On at hn;cases hq:V.getD i false<;>first | rfl | exact absurd hq hn
      rw [hn',hd] at h3
      simp only [Bool.not_true,Bool.or_self,Bool.false_or] at h3
      split at h3
      · rename_i o oj ho hoj
        simp only [and_eq_true] at h3
        obtain ⟨new,hnew⟩:=Option.isSome_iff_exists.1 h3.1
        have h4:=h3.2
        split at h4
        · rename_i d hdd
          exact ⟨o,oj,new,d,ho,hoj,hnew,hdd,le_of_ble_eq_true h4⟩
        · cases h4
      · cases h3
    · exact rc hb.2 h hn hd
theorem B4 {o oj:Oper}{t t':TypeId}{ad x:Operand}{inf:TypeInfo}{ev:Operand→TV}{new:List TV}(h:nE P o.op oj.op ev=some new)(ho:o.op=.alloc t)(hoj:oj.op=.store t' ad x)(hi:P.info? t=some inf):bR (ev x)=some new∧inf.size=new.length∧new.all fQ=true:=by
 unfold nE at h
 rw [ho,hoj] at h
 simp only [hi] at h
 split at h
 ·rename_i i new' h1 h2
  injection h1 with h1;subst h1
  cases hb:(beq inf.size new'.length&&new'.all fQ) with
  |false=>rw [hb] at h;cases h
  |true=>
   rw [hb] at h
   simp only [and_eq_true] at hb
   injection h with h;subst h
   exact ⟨h2,eq_of_beq_eq_true hb.1,hb.2⟩
 ·cases h
theorem sM (st:VStat P ops flo){k:Nat}{o:Oper}(h:boxStore flo k=true)(ho:ops[k]?=some o):o.dst=none:=by
 obtain ⟨i,hi⟩:=B2 h
 obtain ⟨o2,ho2,hlate,hbox⟩:=st.at hi
 obtain ⟨oj,hoj,hib,_⟩:=hbox k rfl
 obtain ⟨_,_,_,_,_,_,_,_,_,h5,_⟩:=pf hib hlate
 rw [ho] at hoj;injection hoj with hoj;subst hoj
 exact h5
theorem Gk (st:VStat P ops flo)(inv:VInv P G ops flo σ T T0 V R pend g w a.tmps.toList prot)(hG:GOk G g w)(hbx:dr P G ops flo V σ flo=true){QQ:Exit→Act→World→Prop}{K:Act→World→Prop}{i j:Nat}(hf:(i,some j)∈flo)(hj:j∈ready .any ops R)(hV:¬On V j)
  (next:∀g' w' (a':Act),VInv P G ops flo σ T T0 V (R.setIfInBounds j true) pend g' w' a'.tmps.toList prot→Evo g w g' w'→(∀n,Fix n g T w T w')→a'.defers=a.defers→K a' w'):wpOpIn (ct r) 0 P ops QQ j K a w:=by
 obtain ⟨hun,oj,hoj,hdep⟩:=mem_ready.1 hj
 have hnR:=fI hun
 have hsz:j<R.size:=by rw [inv.rs];exact (Array.getElem?_eq_some_iff.1 hoj).1
 have hnd':=q9 st.dup
 obtain ⟨o,ho,hlate,hbox⟩:=st.at hf
 obtain ⟨oj',hoj',hib,⟨e1,he1,hb1,hon1⟩,hdeps⟩:=hbox j rfl
 rw [hoj] at hoj';injection hoj' with hoj';subst hoj'
 obtain ⟨d,t,inf,us0,x,h1,h2,h3,h4,h5,h6,h7,_,_⟩:=pf hib hlate
 have hRi:On R i:=hon1▸hdep e1 he1 hb1
 have hVi:¬On V i:=λh=>hV ((inv.vb i j hf).1 h)
 have hdepV:∀e∈oj.after,binds .any e=true→e.on=i∨On V e.on∨boxStore flo e.on=true:=λe he hb=>by
  rcases hdeps e he hb with h | h | h
  ·exact .inl h
  ·refine .inr (.inl ?_)
   cases hq:V.getD e.on false with
   |true=>exact hq
   |false=>exact absurd (inv.rv e.on (hdep e he hb) (by unfold On;rw [hq];simp)) h
  ·exact .inr (.inr h)
 have hdi:uy ops flo (V.setIfInBounds i true) j=true:=by
  unfold uy
  rw [hoj]
  refine all_eq_true.2 λe he=> ?_
  cases hb:binds .any e with
  |false=>simp
  |true=>
   simp only [Bool.not_true,Bool.false_or]
   rw [or_eq_true]
   rcases hdepV e (mem_toList_iff.1 he) hb with h | h | h
   ·left;rw [h];exact kE (by rw [inv.vs];exact (Array.getElem?_eq_some_iff.1 ho).1)
   ·left;exact cn h
   ·right;exact h
 obtain ⟨o',oj',new,d',k1,k2,hnew,k3,hdlt⟩:=rc hbx hf hVi hdi
 rw [ho] at k1;injection k1 with k1;subst k1
 rw [hoj] at k2;injection k2 with k2;subst k2
 rw [h1] at k3;injection k3 with k3;subst k3
 obtain ⟨hcells,hlen,hone⟩:=B4 hnew h2 h3 h7
 obtain ⟨o',d',b,q1,q2,hp,oj',t',us,inf',q3,hheap,hptr,q4,q5,hus,_⟩:=inv.flt i (some j) hf hRi hVi
 rw [ho] at q1;injection q1 with q1;subst q1
 rw [h1] at q2;injection q2 with q2;subst q2
 rw [hoj] at q3;injection q3 with q3;subst q3
 rw [h2] at q4;injection q4 with q4;subst q4
 rw [h7] at q5;injection q5 with q5;subst q5
 --the value
 have hlook:∀e,x=.tmp e→inList (oj.looksAt ops) e=true:=λe he=>by
  rw [bS]
  unfold Oper.looksAt
  rw [h3]
  simp [Op.operands,he]
 have hx:VR g w (bb G (only ops oj σ) x) (a.eval x):=by
  cases x with
  |tmp e=>
   have hl:=hlook e rfl
   show VR g w ((only ops oj σ).getD e .dead) (a.eval (.tmp e))
   cases hs:σ[e]? with
   |none=>
    have:(only ops oj σ)[e]?=none:=by rw [n7,hs];rfl
    rw [List.getD_eq_getElem?_getD,this]
    exact .dead _
   |some z=>
    have hz:(only ops oj σ)[e]?=some z:=by rw [n7,hs,hl];rfl
    rw [List.getD_eq_getElem?_getD,hz]
    have hel:e<a.tmps.toList.length:=by rw [inv.rel.1];exact (List.getElem?_eq_some_iff.1 hs).1
    have hu:a.tmps.toList[e]?=some (a.eval (.tmp e)):=by
     rw [getElem?_eq_getElem hel]
     have:e<a.tmps.size:=by simpa using hel
     simp [eval,this]
    refine inv.rel.2 e z _ hs hu λk ok hk hd=> ?_
    obtain ⟨hkj,hRk⟩:=n9 st.once hoj hdep hl hk hd
    refine ⟨?_,hRk⟩
    obtain ⟨h8,h9⟩:=eG st.once hk hd
    obtain ⟨e2,he2,hb2,hon2⟩:=(h9 j oj hoj (λh=>hkj h.symm)).2 hl
    rcases hdepV e2 he2 hb2 with h | h | h
    rotate_left 2
    ·exfalso
     rw [hon2] at h
     rw [sM st h hk] at hd;cases hd
    ·exfalso
     rw [hon2] at h;subst h
     rw [ho] at hk;injection hk with hk;subst hk
     rw [h1] at hd;injection hd with hd;subst hd
     exact h6 rfl
    ·rw [hon2] at h;exact h
  |const v=>exact .val _
  |global n=>
   have:=eW (a:=a) (σ:= []) (G:=G) (g:=g) (w:=w)
   show VR g w (bb G [] (.global n)) (a.eval (.global n))
   simp only [bb]
   split
   ·rename_i cs hn;exact hG n cs hn
   ·exact .val _
  |func f=>exact .fn (us:= []) (vs:= []) rfl (λj x u h=>by simp at h) rfl (λj x u h=>by simp at h)
 have ha:a.eval (.tmp d)=.pointer (some ⟨b,0,none⟩):=by
  have hel:d<a.tmps.toList.length:=by rw [inv.rel.1];exact hdlt
  have hu:a.tmps.toList[d]?=some (a.eval (.tmp d)):=by
   rw [getElem?_eq_getElem hel]
   have:d<a.tmps.size:=by simpa using hel
   simp [eval,this]
  exact hptr _ hu
 generalize hux:a.eval x=u at hx
 have k:=kT hcells hx
 have hoc:=ky hone k
 have hl:u.cells.toList.length=new.length:=k.1
 have hrun0:=run_storeCells_at (P:=P) b 0 t u.cells.toList 0 us.toArray w hheap (by simp at hl ⊢;omega) hoc
 simp only [Nat.add_zero,hl] at hrun0
 have hnd:ci oj.op=true:=by rw [h3];rfl
 have hcsz:bI (w.setRow b (us.take 0++u.cells.toList++us.drop (0+new.length)).toArray) b=bI w b:=by
  rw [bG (setRow_heap w b us.toArray _ t (0,0) hheap),bG hheap]
  simp at hl ⊢;omega
 have hrow:(us.take 0++u.cells.toList++us.drop (0+new.length))=u.cells.toList:=by
  rw [List.take_zero,List.nil_append,zero_add,List.drop_eq_nil_of_le (by omega),List.append_nil]
 have hrun:(execOp a.eval oj).run P w=.ok .skip (w.setRow b (us.take 0++u.cells.toList++us.drop (0+new.length)).toArray):=by
  have hs:u.cells.size=inf.size:=by rw [hlen,←hl];simp
  have:(storeAt t (a.eval (.tmp d)) u).run P w=.ok () (w.setRow b (us.take 0++u.cells.toList++us.drop (0+new.length)).toArray):=by
   rw [ha]
   simp only [storeAt,Instr.sureAddr,storeVar,Sem.run_bind,Sem.run_pure,andThen_ok,bH h7,hs]
   simpa using hrun0
  obtain ⟨dst,op,ty,pos,af,gd⟩:=oj
  simp only at h3;subst h3
  simp [execOp,hux,this]
 refine ra (v:=undef) hnd hoj (va h4) hrun rfl λv' hv'=> ?_
 injection hv' with hv';subst hv'
 rw [hrow] at hcsz ⊢
 obtain ⟨p1,p2,p3,p4,p5,p6⟩:=inv.pr i b hp
 have hoth:∀c,c≠b→(w.setRow b u.cells.toList.toArray).heap[c]?=w.heap[c]?:=λc hc=>setRow_other w b c _ hc
 obtain ⟨hrw',hev⟩:=inv.rw.off (b:=b) (w':=w.setRow b u.cells.toList.toArray) (.inr ⟨i,hp⟩) p5 ⟨rfl,rfl,rfl⟩ (by simp) hoth hcsz
 have e:=hev g rfl p4
 have hfix:∀n,Fix n g T w T (w.setRow b u.cells.toList.toArray):=λn=>⟨le_refl _,λ_ _ _=>rfl,λid o' b' _ ho' hl' hb'=>hoth b' λh=>by
  subst h
  obtain ⟨b2,y1,_,y3,_⟩:=inv.rw.obj id o' ho' hl'
  have y1':g.obj id=some b2:=y1
  rw [hb'] at y1';injection y1' with y1';subst y1'
  exact y3 (.inr ⟨i,hp⟩)⟩
 have hdst:oj.dst=none:=h5
 refine next g _ (a.put oj.dst undef) ?_ e hfix (cp _ _ _)
 refine ⟨inv.vs,by simpa using inv.rs,inv.cv,inv.cr.set hj,?_,λk hk hv=>cn (inv.vf k hk hv),inv.vb,inv.rel.step e hoj λd x hd _ _=>(by rw [hdst] at hd;cases hd),?_,?_,?_,inv.pinj,hrw',inv.t0⟩
 ·intro k' hk hnv
  by_cases hjk:j=k'
  ·subst hjk;exact cq.2 ⟨i,some j,hf,.inr rfl⟩
  ·exact inv.rv k' (bt hjk hk) hnv
 ·intro k' ok hk hv hnr
  exact inv.own k' ok hk hv λh=>hnr (cn h)
 ·intro i' jo' hf' hri hnv
  by_cases hii:i'=i
  ·subst hii
   obtain ⟨_,rfl⟩:=gf hnd' hf hf' (k:=i') (.inl rfl) (.inl rfl)
   refine ⟨o,d,b,ho,h1,hp,oj,t,u.cells.toList,inf,hoj,setRow_heap w b us.toArray _ t (0,0) hheap,λu' hu'=> ?_,h2,h7,by omega,λ_=>⟨new,hnew,k.mono e,hoc⟩⟩
   rw [nH,if_neg (by rw [hdst];rintro ⟨h,_⟩;cases h)] at hu'
   exact hptr u' hu'
  ·have hri':On R i':=bt (λh=>by
    subst h
    exact hii (gf hnd' hf' hf (k:=j) (.inl rfl) (.inr rfl)).1) hri
   refine (inv.flt i' jo' hf' hri' hnv).step e (λb' hb'=>hoth b' λh=>by subst h;exact hii (inv.pinj i' i b' hb' hp)) rfl (λo' d' _ _ h3'=>by rw [hdst] at h3';cases h3') λjj hjj hr=> ?_
   subst hjj
   refine bt (λh=> ?_) hr
   subst h
   exact hii (gf hnd' hf' hf (k:=j) (.inr rfl) (.inr rfl)).1
 ·intro k' b' hk
  obtain ⟨y1,y2,y3,y4,y5,y6⟩:=inv.pr k' b' hk
  exact ⟨y1,cn y2,y3,y4,y5,Nat.lt_of_lt_of_le y6 e.size⟩
end
section
variable {P:Program}{G:aP}{F:gD}{ops:Array Oper}{r:Option Nat}{flo:List (Nat × Option Nat)}{σ:List TV}{T T0:VT}{V R:Array Bool}{pend:List Nat}{g:Gh}{w:World}{a:Act}{prot:Nat→Option Nat}
theorem Owed.put (st:VStat P ops flo)(hcv:Closed ops V){i k:Nat}{o ok:Oper}(ho:ops[i]?=some o)(hVi:¬On V i)(hk:ops[k]?=some ok)(hVk:On V k){y:TV}{pend':List Nat}(hp:∀k∈pend,k∈pend')(h:Owed P G ops T0 pend k ok σ):Owed P G ops T0 pend' k ok (bv σ o.dst y):=by
 have hki:k≠i:=λe=>hVi (e▸hVk)
 have hon:only ops ok (bv σ o.dst y)=only ops ok σ:=n8 λs hs=>by
  cases hl:inList (ok.looksAt ops) s with
  |false=>rfl
  |true=>
   obtain ⟨e,he,hb,hon⟩:=((eG st.once ho hs).2 k ok hk hki).2 hl
   exact absurd (hon▸hcv k ok hk hVk e he hb) hVi
 have hat:∀d x,ok.dst=some d→(bv σ o.dst y)[d]?=some x→σ[d]?=some x:=λd x hd hx=>by
  rw [lL,if_neg] at hx
  ·exact hx
  ·rintro ⟨h1,_⟩
   exact ((eG st.once ho h1).2 k ok hk hki).1 hd
 obtain ⟨h0,h1⟩:=h
 refine ⟨h0,?_⟩
 rw [hon]
 rcases h1 with ⟨h1,h2⟩ | ⟨h1,z,h2,h3⟩
 ·exact .inl ⟨h1,λd x hd hx=>h2 d x hd (hat d x hd hx)⟩
 ·refine .inr ⟨h1,z,λd x hd hx=>h2 d x hd (hat d x hd hx),?_⟩
  rcases h3 with h3 | ⟨h3,h4⟩
  ·exact .inl h3
  ·exact .inr ⟨hp k h3,h4⟩
theorem FlSt.sig {R:Array Bool}{tm:List Value}{i:Nat}{jo:Option Nat}{σ':List TV}(h:FlSt P G ops σ R g w tm prot i jo)(hs:∀(j:Nat) oj,jo=some j→ops[j]?=some oj→On R j→only ops oj σ'=only ops oj σ):FlSt P G ops σ' R g w tm prot i jo:=by
 obtain ⟨o,d,b,h1,h2,h3,h4⟩:=h
 refine ⟨o,d,b,h1,h2,h3,?_⟩
 cases jo with
 |none=>exact h4
 |some j=>
  obtain ⟨oj,t,us,inf,k1,k2,k3,k4,k5,k6,k7⟩:=h4
  refine ⟨oj,t,us,inf,k1,k2,k3,k4,k5,k6,λhj=> ?_⟩
  rw [hs j oj rfl k1 hj];exact k7 hj
theorem B5 (st:VStat P ops flo)(inv:VInv P G ops flo σ T T0 V R pend g w a.tmps.toList prot){i:Nat}{o:Oper}(ho:ops[i]?=some o)(hi:i∈ready .any ops V)(hF:i∉cg flo)(hnd:ci o.op=true){y:TV}{pend':List Nat}(hp:∀k∈pend,k∈pend')
  (how:(bP ops (only ops o σ) o=some false∧y=.val undef)∨(bP ops (only ops o σ) o=some true∧(kW P G ⟨[],[]⟩ o (only ops o σ) y∨(i∈pend'∧aW P o.op (bb G (only ops o σ))=none∧aY P T0 o.op (bb G (only ops o σ))=some y)))):
  VInv P G ops flo (bv σ o.dst y) T T0 (V.setIfInBounds i true) R pend' g w a.tmps.toList prot:=by
 obtain ⟨hun,o',ho',hdep⟩:=mem_ready.1 hi
 rw [ho] at ho';injection ho' with ho';subst ho'
 have hVi:=fI hun
 have hRi:¬On R i:=λh=>hF (inv.rv i h hVi)
 have hlt:=(Array.getElem?_eq_some_iff.1 ho).1
 refine ⟨by simpa using inv.vs,inv.rs,inv.cv.set hi,inv.cr,λk hk hnv=>inv.rv k hk λh=>hnv (cn h),λk hk hv=> ?_,λi' j' h=> ?_,?_,λk ok hk hv hnr=> ?_,λi' jo hf hri hnv=> ?_,λk b hk=> ?_,inv.pinj,inv.rw,inv.t0⟩
 ·exact inv.vf k hk (bt (λh=>hF (by rw [h];exact hk)) hv)
 ·have h1:i≠i':=λe=>hF (cq.2 ⟨i',some j',h,.inl e⟩)
  have h2:i≠j':=λe=>hF (cq.2 ⟨i',some j',h,.inr (by rw [e])⟩)
  exact ⟨λh3=>cn ((inv.vb i' j' h).1 (bt h1 h3)),λh3=>cn ((inv.vb i' j' h).2 (bt h2 h3))⟩
 ·refine ⟨by rw [vS];exact inv.rel.1,λs x u hs hu hw=> ?_⟩
  have hne:o.dst≠some s:=λhd=>hRi (hw i o ho hd).2
  rw [lL,if_neg λh=>hne h.1] at hs
  refine inv.rel.2 s x u hs hu λk ok hk hd=> ?_
  obtain ⟨h1,h2⟩:=hw k ok hk hd
  refine ⟨bt (λh=> ?_) h1,h2⟩
  subst h
  rw [ho] at hk;injection hk with hk;subst hk
  exact hne hd
 ·by_cases hki:i=k
  ·subst hki
   rw [ho] at hk;injection hk with hk;subst hk
   have hself:∀s,o.dst=some s→inList (o.looksAt ops) s=false:=λs hs=>(eG st.once ho hs).1
   have hat:∀d x,o.dst=some d→(bv σ o.dst y)[d]?=some x→x=y:=λd x hd hx=>by
    rw [lL] at hx
    by_cases hc:o.dst=some d∧d<σ.length
    ·rw [if_pos hc] at hx;injection hx with hx;exact hx.symm
    ·rw [if_neg hc] at hx
     exact absurd ⟨hd,(List.getElem?_eq_some_iff.1 hx).1⟩ hc
   refine ⟨hnd,?_⟩
   rw [n8 hself]
   rcases how with ⟨h1,h2⟩ | ⟨h1,h2⟩
   ·exact .inl ⟨h1,λd x hd hx=>(hat d x hd hx).trans h2⟩
   ·exact .inr ⟨h1,y,hat,h2⟩
  ·have hv':=bt hki hv
   exact (inv.own k ok hk hv' hnr).put st inv.cv ho hVi hk hv' hp
 ·refine (inv.flt i' jo hf hri λh=>hnv (cn h)).sig λj oj hj hoj hrj=>n8 λs hs=> ?_
  subst hj
  cases hl:inList (oj.looksAt ops) s with
  |false=>rfl
  |true=>
   have hji:j≠i:=λe=>hRi (e▸hrj)
   obtain ⟨e,he,hb,hon⟩:=((eG st.once ho hs).2 j oj hoj hji).2 hl
   exact absurd (hon▸inv.cr j oj hoj hrj e he hb) hRi
 ·obtain ⟨h1,h2,h3,h4⟩:=inv.pr k b hk
  refine ⟨h1,h2,λh=> ?_,h4⟩
  by_cases hik:i=k
  ·subst hik;exact hRi h2
  ·exact h3 (bt hik h)
theorem EC {n:Nat}{o:VO}:Fix n g T w {T with objs:=T.objs++ [o]} w:=
 ⟨by simp,λi _ hl=>by rw [List.getElem?_append_left hl],λ_ _ _ _ _ _ _=>rfl⟩
theorem w6 (st:VStat P ops flo)(inv:VInv P G ops flo σ T T0 V R pend g w a.tmps.toList prot){i:Nat}{jo:Option Nat}{o:Oper}(ho:ops[i]?=some o)(hf:(i,jo)∈flo)(hi:i∈ready .any ops V)(hRi:On R i)(hRj:∀j,jo=some j→On R j){V':Array Bool}
  (hV':∀k,On V' k ↔ (k=i∨jo=some k)∨On V k) (hvs:V'.size=ops.size) (hcv:Closed ops V') {b:Nat} (hb:prot i=some b) {vo:VO} {y:TV} (hl:vo.live=true) (hor:OR g w b vo) (hy:∀d u,o.dst=some d→a.tmps.toList[d]?=some u→∀g':Gh,g'.obj T.objs.length=some b→VR g' w y u):
  ∃g' prot',VInv P G ops flo (bv σ o.dst y) {T with objs:=T.objs++ [vo]} T0 V' R pend g' w a.tmps.toList prot'∧Evo g w g' w:=by
 obtain ⟨hun,o',ho',hdep⟩:=mem_ready.1 hi
 rw [ho] at ho';injection ho' with ho';subst ho'
 have hVi:=fI hun
 have hnd':=q9 st.dup
 have hiF:i∈cg flo:=cq.2 ⟨i,jo,hf,.inl rfl⟩
 obtain ⟨p1,p2,p3,p4,p5,p6⟩:=inv.pr i b hb
 have hout:g.obj T.objs.length=none:=inv.rw.out _ (le_refl _)
 have e:Evo g w (g.addObj T.objs.length b) w:=Evo.addObj hout
 have hpne:∀k,k≠i→(if k=i then none else prot k)=prot k:=λk hk=>if_neg hk
 have hPB:∀c,PB (λk=>if k=i then none else prot k) c→PB prot c∧c≠b:=by
  rintro c ⟨k,hk⟩
  replace hk:(if k=i then none else prot k)=some c:=hk
  by_cases hki:k=i
  ·rw [if_pos hki] at hk;cases hk
  ·rw [if_neg hki] at hk
   exact ⟨⟨k,hk⟩,λh=>hki (inv.pinj k i b (h▸hk) hb)⟩
 have r1:RW (gP g (PB λk=>if k=i then none else prot k)) T w:=inv.rw.lessFr rfl rfl rfl λc hc=>by
  rcases hc with hc | hc
  ·exact .inl hc
  ·exact .inr (hPB c hc).1
 have hfresh:wF (gP g (PB λk=>if k=i then none else prot k)) T b:=by
  refine ⟨λhc=> ?_,p5,λid o hid hlo hob=> ?_,λk x hx hh=> ?_⟩
  ·rcases hc with hc | hc
   ·exact p4 hc
   ·exact (hPB b hc).2 rfl
  ·obtain ⟨c,h1,_,h3,_⟩:=inv.rw.obj id o hid hlo
   have h1':g.obj id=some c:=h1
   have hob':g.obj id=some b:=hob
   rw [h1'] at hob';injection hob' with hob';subst hob'
   exact h3 (.inr ⟨i,hb⟩)
  ·rcases hh with ⟨o2,hin⟩ | ⟨h1,h2,h3⟩
   ·rcases lt_or_ge k T.tails.length with hk | hk
    ·obtain ⟨x',y1,_,_,y4⟩:=inv.rw.tl k T.tails[k] (getElem?_eq_getElem hk)
     have y1':g.tail k=some x':=y1
     have hx':g.tail k=some x:=hx
     rw [hx'] at y1';injection y1' with y1';subst y1'
     exact (y4 b o2 hin).2.2.2 (.inr ⟨i,hb⟩)
    ·have:=r1.tout k hk
     rw [hx] at this;cases this
   ·have:=(inv.rw.own k x hx h1 h2).2.2.2.2
    rw [h3] at this
    exact this (.inr ⟨i,hb⟩)
 have r2:=r1.addObj hfresh hl (OR.gh (g:=g) (g':=gP g (PB λk=>if k=i then none else prot k)) rfl rfl rfl hor)
 have hV'j:∀k,On V' k→¬On V k→k=i∨jo=some k:=λk h1 h2=>by
  rcases (hV' k).1 h1 with h | h
  ·exact h
  ·exact absurd h h2
 refine ⟨g.addObj T.objs.length b,λk=>if k=i then none else prot k,?_,e⟩
 refine ⟨hvs,inv.rs,hcv,inv.cr,λk hk hnv=>inv.rv k hk λh=>hnv ((hV' k).2 (.inr h)),λk hk hv=> ?_,λi' j' h=> ?_,?_,λk ok hk hv hnr=> ?_,λi' jo' hf' hri hnv=> ?_,λk c hk=> ?_,λk k' c hk hk'=> ?_,r2,?_⟩
 ·rcases (hV' k).1 hv with (h | h) | h
  ·subst h;exact hRi
  ·exact hRj k h
  ·exact inv.vf k hk h
 ·constructor
  ·intro h1
   rcases (hV' i').1 h1 with h2 | h2
   ·obtain ⟨rfl,rfl⟩:=gf hnd' hf h h2 (.inl rfl)
    exact (hV' j').2 (.inl (.inr rfl))
   ·exact (hV' j').2 (.inr ((inv.vb i' j' h).1 h2))
  ·intro h1
   rcases (hV' j').1 h1 with h2 | h2
   ·obtain ⟨rfl,rfl⟩:=gf hnd' hf h h2 (.inr rfl)
    exact (hV' i).2 (.inl (.inl rfl))
   ·exact (hV' i').2 (.inr ((inv.vb i' j' h).2 h2))
 ·refine ⟨by rw [vS];exact inv.rel.1,λs x u hs hu hw=> ?_⟩
  rw [lL] at hs
  by_cases hc:o.dst=some s∧s<σ.length
  ·rw [if_pos hc] at hs;injection hs with hs;subst hs
   exact hy s u hc.1 hu _ (by simp [Gh.addObj])
  ·rw [if_neg hc] at hs
   have hne:o.dst≠some s:=λhd=>hc ⟨hd,(List.getElem?_eq_some_iff.1 hs).1⟩
   refine (inv.rel.2 s x u hs hu λk ok hk hd=> ?_).mono e
   obtain ⟨h1,h2⟩:=hw k ok hk hd
   refine ⟨?_,h2⟩
   rcases (hV' k).1 h1 with (h | h) | h
   ·subst h
    rw [ho] at hk;injection hk with hk;subst hk
    exact absurd hd hne
   ·exfalso
    --a box's store writes no slot
    obtain ⟨o2,ho2,hlate,hbox⟩:=st.at hf
    obtain ⟨oj,hoj,hib,_⟩:=hbox k h
    obtain ⟨_,_,_,_,_,_,_,_,_,h5,_⟩:=pf hib hlate
    rw [hk] at hoj;injection hoj with hoj;subst hoj
    rw [h5] at hd;cases hd
   ·exact h
 ·rcases (hV' k).1 hv with (h | h) | h
  ·subst h;exact absurd hRi hnr
  ·exact absurd (hRj k h) hnr
  ·exact (inv.own k ok hk h hnr).put st inv.cv ho hVi hk h λ_ h=>h
 ·have hnv0:¬On V i':=λh=>hnv ((hV' i').2 (.inr h))
  have hii:i' ≠i:=λh=>hnv ((hV' i').2 (.inl (.inl h)))
  have h0:=(inv.flt i' jo' hf' hri hnv0).sig (σ':=bv σ o.dst y) λj oj hj hoj hrj=>n8 λs hs=>by
   subst hj
   cases hlk:inList (oj.looksAt ops) s with
   |false=>rfl
   |true=>
    exfalso
    have hji:j≠i:=λe=>hii (gf hnd' hf' hf (k:=i) (.inr (by rw [e])) (.inl rfl)).1
    obtain ⟨e1,he,hb1,hon⟩:=((eG st.once ho hs).2 j oj hoj hji).2 hlk
    obtain ⟨o2,ho2,_,hbox⟩:=st.at hf'
    obtain ⟨oj',hoj',_,_,hdeps⟩:=hbox j rfl
    rw [hoj] at hoj';injection hoj' with hoj';subst hoj'
    rcases hdeps e1 he hb1 with h | h | h
    ·exact hii (h.symm.trans hon)
    ·exact h (hon▸hiF)
    ·rw [hon] at h
     rw [sM st h ho] at hs;cases hs
  have h1:=h0.step (g':=g.addObj T.objs.length b) (w':=w) (a:=a) (R':=R) (prot':=λk=>if k=i then none else prot k) e (λ_ _=>rfl) (hpne i' hii) (d':=none) (v:=undef) (λ_ _ _ _ h=>by cases h) (λ_ _ h=>h)
  simpa [Act.put] using h1
 ·replace hk:(if k=i then none else prot k)=some c:=hk
  by_cases hki:k=i
  ·rw [if_pos hki] at hk;cases hk
  ·rw [if_neg hki] at hk
   obtain ⟨h1,h2,h3,h4,h5,h6⟩:=inv.pr k c hk
   refine ⟨h1,h2,λh=> ?_,h4,h5,h6⟩
   rcases (hV' k).1 h with (h | h) | h
   ·exact hki h
   ·obtain ⟨jo',hjo'⟩:=h1
    exact hki (gf hnd' hjo' hf (k:=k) (.inl rfl) (.inr h)).1
   ·exact h3 h
 ·replace hk:(if k=i then none else prot k)=some c:=hk
  replace hk':(if k'=i then none else prot k')=some c:=hk'
  by_cases hki:k=i
  ·rw [if_pos hki] at hk;cases hk
  ·by_cases hki':k'=i
   ·rw [if_pos hki'] at hk';cases hk'
   ·rw [if_neg hki] at hk;rw [if_neg hki'] at hk'
    exact inv.pinj k k' c hk hk'
 ·have hle:T0.objs.length≤T.objs.length:=by
   have:=congrArg length inv.t0
   rw [length_take] at this;omega
  show (T.objs++ [vo]).take T0.objs.length=T0.objs
  rw [List.take_append_of_le_length hle];exact inv.t0
end
section
variable {P:Program}{G:aP}{F:gD}{ops:Array Oper}{r:Option Nat}{flo:List (Nat × Option Nat)}{σ:List TV}{T T0:VT}{V R:Array Bool}{pend:List Nat}{g:Gh}{w:World}{a:Act}{prot:Nat→Option Nat}
theorem VInv.turned (st:VStat P ops flo)(inv:VInv P G ops flo σ T T0 V R pend g w a.tmps.toList prot){i:Nat}{o:Oper}(ho:ops[i]?=some o)(hiR:i∈ready .any ops R)(hiV:i∈ready .any ops V)(hF:i∉cg flo)
  {g':Gh} {w':World} {v:Value} {y:TV} {T' T0':VT} {pend':List Nat} (e:Evo g w g' w') (hfr:g'.fr=g.fr) (hB:∀b,PB prot b→w'.heap[b]?=w.heap[b]?) (hst:∀b o,PB prot b→g'.st b o→g.st b o) (hrw:RW (gP g' (PB prot)) T' w') (hy:∀d u,o.dst=some d→(a.put o.dst v).tmps.toList[d]?=some u→VR g' w' y u)
  (ht0:T'.objs.take T0'.objs.length=T0'.objs) (hpend:∀k ok y,k∈pend→ops[k]?=some ok→¬On R k→bP ops (only ops ok σ) ok=some true→aW P ok.op (bb G (only ops ok σ))=none→aY P T0 ok.op (bb G (only ops ok σ))=some y→k∈pend'∧aY P T0' ok.op (bb G (only ops ok σ))=some y):
  VInv P G ops flo (bv σ o.dst y) T' T0' (V.setIfInBounds i true) (R.setIfInBounds i true) pend' g' w' (a.put o.dst v).tmps.toList prot:=by
 obtain ⟨hun,o',ho',hdep⟩:=mem_ready.1 hiR
 rw [ho] at ho';injection ho' with ho';subst ho'
 have hnR:=fI hun
 have hVi:=fI (mem_ready.1 hiV).1
 have hlt:=(Array.getElem?_eq_some_iff.1 ho).1
 refine ⟨by simpa using inv.vs,by simpa using inv.rs,inv.cv.set hiV,inv.cr.set hiR,λk hk hnv=> ?_,λk hk hv=>cn (inv.vf k hk (bt (λh=>hF (by rw [h];exact hk)) hv)),λi' j' h=> ?_,?_,λk ok hk hv hnr=> ?_,λi' jo hf hri hnv=> ?_,λk b hk=> ?_,inv.pinj,hrw,ht0⟩
 ·by_cases hik:i=k
  ·subst hik;exact absurd (kE (by rw [inv.vs];exact hlt)) hnv
  ·exact inv.rv k (bt hik hk) λh=>hnv (cn h)
 ·have h1:i≠i':=λe=>hF (cq.2 ⟨i',some j',h,.inl e⟩)
  have h2:i≠j':=λe=>hF (cq.2 ⟨i',some j',h,.inr (by rw [e])⟩)
  exact ⟨λh3=>cn ((inv.vb i' j' h).1 (bt h1 h3)),λh3=>cn ((inv.vb i' j' h).2 (bt h2 h3))⟩
 ·refine ⟨by rw [vS,EB];exact inv.rel.1,λs x u hs hu hw=> ?_⟩
  rw [lL] at hs
  by_cases hc:o.dst=some s∧s<σ.length
  ·rw [if_pos hc] at hs;injection hs with hs;subst hs
   exact hy s u hc.1 hu
  ·rw [if_neg hc] at hs
   have hne:o.dst≠some s:=λhd=>hc ⟨hd,(List.getElem?_eq_some_iff.1 hs).1⟩
   rw [nH,if_neg λh=>hne h.1] at hu
   refine (inv.rel.2 s x u hs hu λk ok hk hd=> ?_).mono e
   obtain ⟨h1,h2⟩:=hw k ok hk hd
   have hik:i≠k:=λh=>by
    subst h
    rw [ho] at hk;injection hk with hk;subst hk
    exact hne hd
   exact ⟨bt hik h1,bt hik h2⟩
 ·have hki:i≠k:=λh=>hnr (h▸kE (by rw [inv.rs];exact hlt))
  have hv':=bt hki hv
  have hnr':¬On R k:=λh=>hnr (cn h)
  have h1:Owed P G ops T0' pend' k ok σ:=by
   obtain ⟨h2,h3⟩:=inv.own k ok hk hv' hnr'
   refine ⟨h2,?_⟩
   rcases h3 with h3 | ⟨h3,z,h4,h5⟩
   ·exact .inl h3
   ·refine .inr ⟨h3,z,h4,?_⟩
    rcases h5 with h5 | ⟨h5,h6,h7⟩
    ·exact .inl h5
    ·obtain ⟨h8,h9⟩:=hpend k ok z h5 hk hnr' h3 h6 h7
     exact .inr ⟨h8,h6,h9⟩
  exact h1.put (y:=y) (pend':=pend') st inv.cv ho hVi hk hv' λ_ h=>h
 ·have hii:i≠i':=λh=>hF (cq.2 ⟨i',jo,hf,.inl h⟩)
  have hri':=bt hii hri
  have hnv':¬On V i':=λh=>hnv (cn h)
  have h0:=(inv.flt i' jo hf hri' hnv').sig (σ':=bv σ o.dst y) λj oj hj hoj hrj=>n8 λs hs=>by
   subst hj
   cases hlk:inList (oj.looksAt ops) s with
   |false=>rfl
   |true=>
    exfalso
    have hji:j≠i:=λe=>hF (cq.2 ⟨i',some j,hf,.inr (by rw [e])⟩)
    obtain ⟨e1,he,hb1,hon⟩:=((eG st.once ho hs).2 j oj hoj hji).2 hlk
    exact hnR (hon▸inv.cr j oj hoj hrj e1 he hb1)
  refine h0.step e (λb hb=>hB b ⟨i',hb⟩) rfl (λo' d' h1 h2 h3=>((eG st.once h1 h2).2 i o ho hii).1 h3) λj hj hr=> ?_
  subst hj
  exact bt (λh=>hF (cq.2 ⟨i',some j,hf,.inr (by rw [h])⟩)) hr
 ·obtain ⟨h1,h2,h3,h4,h5,h6⟩:=inv.pr k b hk
  refine ⟨h1,cn h2,λh=> ?_,by rw [hfr];exact h4,λo2 hs=>h5 o2 (hst b o2 ⟨k,hk⟩ hs),Nat.lt_of_lt_of_le h6 e.size⟩
  by_cases hik:i=k
  ·subst hik;exact hnR h2
  ·exact h3 (bt hik h)
theorem mw (st:VStat P ops flo)(inv:VInv P G ops flo σ T T0 V R pend g w a.tmps.toList prot)(hG:GOk G g w){QQ:Exit→Act→World→Prop}{K:Act→World→Prop}{i:Nat}{o:Oper}(ho:ops[i]?=some o)
  (hiR:i∈ready .any ops R) (hiV:i∈ready .any ops V) (hF:i∉cg flo) {ro:Nat} {b:Bool} (hw:bP ops (only ops o σ) o=some b) {X:List TV→VT→Prop}
  (h:b=true→VPi P G ro o (only ops o σ) T λs T'=>X (bv σ o.dst (o9 o s)) T') (hY:b=false→X (bv σ o.dst (.val undef)) T) {pend':List Nat} (T0':VT→VT) (ht0:∀σ' T' w' g',X σ' T'→Fix ro g T w T' w'→Evo g w g' w'→T'.objs.take (T0' T').objs.length=(T0' T').objs)
  (hpend:∀σ' T' k ok y,X σ' T'→k∈pend→ops[k]?=some ok→¬On R k→bP ops (only ops ok σ) ok=some true→aW P ok.op (bb G (only ops ok σ))=none→aY P T0 ok.op (bb G (only ops ok σ))=some y→k∈pend'∧aY P (T0' T') ok.op (bb G (only ops ok σ))=some y)
  (next:∀σ' T' g' w' (a':Act),X σ' T'→VInv P G ops flo σ' T' (T0' T') (V.setIfInBounds i true) (R.setIfInBounds i true) pend' g' w' a'.tmps.toList prot→Evo g w g' w'→Fix ro g T w T' w'→a'.defers=a.defers→K a' w'):wpOpIn (ct r) 0 P ops QQ i K a w:=by
 obtain ⟨_,o',ho',hdepR⟩:=mem_ready.1 hiR
 rw [ho] at ho';injection ho' with ho';subst ho'
 obtain ⟨_,o',ho',hdepV⟩:=mem_ready.1 hiV
 rw [ho] at ho';injection ho' with ho';subst ho'
 have hl:∀s,inList (o.looksAt ops) s=true→∀(k:Nat) ok,ops[k]?=some ok→ok.dst=some s→On V k∧On R k:=λs hs k ok hk hd=>
  ⟨(n9 st.once ho hdepV hs hk hd).2,(n9 st.once ho hdepR hs hk hd).2⟩
 have hσ:=inv.rel.only hl
 have hwant:=i8 hw hσ
 cases b with
 |false=>
  refine u9 ho hwant ?_
  refine next _ T g w _ (hY rfl) ?_ (Evo.refl _ _) (Fix.refl _ _ _ _) (cp _ _ _)
  exact inv.turned st ho hiR hiV hF (Evo.refl _ _) rfl (λ_ _=>rfl) (λ_ _ _ h=>h) inv.rw (λd u hd hu=>by
   rw [nH] at hu
   by_cases hc:o.dst=some d∧d<a.tmps.toList.length
   ·rw [if_pos hc] at hu;injection hu with hu;subst hu;exact .val _
   ·rw [if_neg hc] at hu;exact absurd ⟨hd,(List.getElem?_eq_some_iff.1 hu).1⟩ hc) (ht0 _ _ w g (hY rfl) (Fix.refl _ _ _ _) (Evo.refl _ _)) (λk ok y=>hpend _ T k ok y (hY rfl))
 |true=>
  unfold wpOpIn
  simp only [ho]
  rw [if_pos hwant]
  refine h rfl r (gP g (PB prot)) w a _ _ inv.rw hG.toP (VRs.gh (g:=g) (g':=gP g (PB prot)) rfl rfl rfl hσ) λs T' g1 w1 a' hput hX e1 r1 hs hd' hfix=> ?_
  obtain ⟨v,rfl⟩:=hput
  obtain ⟨g',rfl,hfr,e,hB,hst⟩:=e1.base
  have hfix':Fix ro g T w T' w1:=⟨hfix.len,hfix.same,hfix.heap⟩
  refine next _ T' g' w1 _ hX ?_ e hfix' hd'
  refine inv.turned st ho hiR hiV hF e hfr hB hst r1 (λd u hd hu=> ?_) (ht0 _ _ w1 g' hX hfix' e) (λk ok y=>hpend _ T' k ok y hX)
  unfold o9
  rw [hd]
  simp only
  rw [List.getD_eq_getElem?_getD]
  have hlen:s.length=(a.put o.dst v).tmps.toList.length:=hs.1.symm
  have hdl:=(List.getElem?_eq_some_iff.1 hu).1
  rw [←hlen] at hdl
  rw [getElem?_eq_getElem hdl]
  exact (hs.2 d _ u (getElem?_eq_getElem hdl) hu).ofP
theorem sN:∀{l:List Nat} {V:Array Bool} {k:Nat},On (fG l V) k→k∈l∨On V k
 |[],_,_,h=>.inr h
 |i::l,V,k,h=>by
  rcases sN (l:=l) h with h | h
  ·exact .inl (mem_cons_of_mem _ h)
  ·by_cases hik:i=k
   ·exact .inl (by rw [hik];exact mem_cons_self)
   ·exact .inr (bt hik h)
theorem my:∀{l:List Nat} {V:Array Bool} {k:Nat},(On V k∨(k∈l∧k<V.size))→On (fG l V) k
  |[],_,_,h=>by
    rcases h with h | h
    · exact h
    · cases h.1
  |i::l,V,k,h=>by
    refine my (l:=l) ?_
    rcases h with h | ⟨h,hk⟩
    · exact .inl (cn h)
    · rcases mem_cons.1 h with h | h
      · subst h;exact .inl (kE hk)
      · exact .inr ⟨h,by simpa using hk⟩
theorem re (inv:VInv P G ops flo σ T T0 V R pend g w a.tmps.toList prot){j:Nat}(hj:j∈ready .any ops R)(hV:¬On V j)(hF:j∉cg flo):j∈ready .any ops (fG (cg flo) V):=by
 obtain ⟨hun,o,ho,hdep⟩:=mem_ready.1 hj
 have hsz:∀(l:List Nat) (V:Array Bool),(fG l V).size=V.size:=by
  intro l
  induction l with
  |nil=>intro V;rfl
  |cons i l ih=>intro V;rw [fG,ih];simp
 have hlt:=(Array.getElem?_eq_some_iff.1 ho).1
 refine mem_ready.2 ⟨Ip (by rw [hsz,inv.vs];exact hlt) λh=> ?_,o,ho,λe he hb=> ?_⟩
 ·rcases sN h with h | h
  ·exact hF h
  ·exact hV h
 ·have h1:=hdep e he hb
  by_cases hv:On V e.on
  ·exact my (.inl hv)
  ·refine my (.inr ⟨inv.rv e.on h1 hv,?_⟩)
   have h2:=inv.rs
   have h3:=inv.vs
   rcases lt_or_ge e.on R.size with h | h
   ·omega
   ·simp [Array.getElem?_eq_none h] at h1
theorem vT {i:Nat}:∀{l:List Nat} {k:Nat},k∈l→k≠i→k∈ka i l
 |a::l,k,h,hn=>by
  simp only [ka]
  cases hb:beq a i with
  |true=>
   have:=eq_of_beq_eq_true hb
   simp only [cond_true]
   rcases mem_cons.1 h with h | h
   ·exact absurd (h.trans this) hn
   ·exact vT h hn
  |false=>
   simp only [cond_false]
   rcases mem_cons.1 h with h | h
   ·rw [h];exact mem_cons_self
   ·exact mem_cons_of_mem _ (vT h hn)
theorem vU {i:Nat}:∀{l:List Nat} {k:Nat},k∈ka i l→k∈l
 |a::l,k,h=>by
  simp only [ka] at h
  cases hb:beq a i with
  |true=>rw [hb] at h;exact mem_cons_of_mem _ (vU h)
  |false=>
   rw [hb] at h
   rcases mem_cons.1 h with h | h
   ·rw [h];exact mem_cons_self
   ·exact mem_cons_of_mem _ (vU h)
theorem zS (inv:VInv P G ops flo σ T T0 V R pend g w a.tmps.toList prot){j i0:Nat}(hn:¬On R i0)(hj:j∈ready .any ops R)(hV:¬On V j)(hF:j∉cg flo):j∈ready .any ops (fG (ka i0 (cg flo)) V):=by
 obtain ⟨hun,o,ho,hdep⟩:=mem_ready.1 hj
 have hsz:∀(l:List Nat) (V:Array Bool),(fG l V).size=V.size:=by
  intro l
  induction l with
  |nil=>intro V;rfl
  |cons i l ih=>intro V;rw [fG,ih];simp
 have hlt:=(Array.getElem?_eq_some_iff.1 ho).1
 refine mem_ready.2 ⟨Ip (by rw [hsz,inv.vs];exact hlt) λh=> ?_,o,ho,λe he hb=> ?_⟩
 ·rcases sN h with h | h
  ·exact hF (vU h)
  ·exact hV h
 ·have h1:=hdep e he hb
  by_cases hv:On V e.on
  ·exact my (.inl hv)
  ·refine my (.inr ⟨vT (inv.rv e.on h1 hv) (λh=>hn (h▸h1)),?_⟩)
   have h2:=inv.rs
   have h3:=inv.vs
   rcases lt_or_ge e.on R.size with h | h
   ·omega
   ·simp [Array.getElem?_eq_none h] at h1
def kX (R:Array Bool):Nat:=R.toList.count false
theorem K1 {R:Array Bool}{i:Nat}(hi:i<R.size)(h:¬On R i):kX (R.setIfInBounds i true)+1≤kX R:=by
 unfold kX
 rw [Array.toList_setIfInBounds]
 have hl:i<R.toList.length:=by simpa using hi
 have h0:R.toList[i]=false:=by
  unfold On at h
  simp [hi] at h ⊢;exact h
 have hm:false∈R.toList:=by rw [←h0];exact List.getElem_mem hl
 have hpos:0<R.toList.count false:=List.count_pos_iff.2 hm
 rw [List.count_set hl,h0]
 simp only [beq_self_eq_true,if_true,Nat.add_zero,show ((true:Bool)==false)=false from rfl,Bool.false_eq_true,if_false]
 omega
theorem Iq {R:Array Bool}(h:kX R=0):∀i,i<R.size→On R i:=λi hi=>by
 unfold kX at h
 have h1:false∉R.toList:=List.count_eq_zero.1 h
 unfold On
 simp [hi]
 cases hq:R[i] with
 |true=>rfl
 |false=>
  exfalso
  apply h1
  rw [←hq]
  exact mem_toList_iff.2 (getElem_mem hi)
theorem oa (hf:dT ops=true){R:Array Bool}(hs:R.size=ops.size)(h:ready .any ops R= []):∀i,i<ops.size→On R i:=qM hf hs h
theorem sO {R:Array Bool}(h:∀i,i<ops.size→On R i):ready .any ops R= []:=by
 apply List.eq_nil_iff_forall_not_mem.2
 intro i hi
 obtain ⟨hun,o,ho,_⟩:=mem_ready.1 hi
 exact fI hun (h i (Array.getElem?_eq_some_iff.1 ho).1)
end
section
variable {P:Program}{ops:Array Oper}{flo:List (Nat × Option Nat)}{F:List Nat}
theorem zT {n:Nat}:∀{l:List Nat},wX n l=true→∀i∈l,i<n
 |[],_,i,h=>by cases h
 |a::l,h,i,hi=>by
  simp only [wX,and_eq_true] at h
  rcases mem_cons.1 hi with rfl | hi
  ·exact le_of_ble_eq_true h.1
  ·exact zT h.2 i hi
theorem MaskOk.all {n:Nat}:∀(F:List Nat) (m:Nat) (V:Array Bool),MaskOk n m V→(∀i∈F,i<n)→MaskOk n (lor m (jA F)) (fG F V)
 |[],m,V,h,_=>by
  have:lor m (jA [])=m:=Nat.or_zero m
  rw [this];exact h
 |i::l,m,V,h,k=>by
  have h1:=MaskOk.all l _ _ (h.set (k i mem_cons_self)) λj hj=>k j (mem_cons_of_mem _ hj)
  have e:lor m (jA (i::l))=lor (lor m (fE i)) (jA l):=(Nat.or_assoc m (fE i) (jA l)).symm
  rw [e];exact h1
theorem pg {i k:Nat}:∀{l:List Nat},k∈ka i l→k∈l
 |[],h=>by cases h
 |a::l,h=>by
  simp only [ka] at h
  cases hb:beq a i with
  |true=>rw [hb] at h;exact mem_cons_of_mem _ (pg h)
  |false=>
   rw [hb] at h
   rcases mem_cons.1 h with rfl | h
   ·exact mem_cons_self
   ·exact mem_cons_of_mem _ (pg h)
theorem B6:∀(L:List Oper) (j:Nat),(jz L)[j]?=(L[j]?).map λo=>fF o.after.toList
 |[],j=>by simp [jz]
 |o::L,0=>by simp [jz]
 |o::L,j+1=>by simpa [jz] using B6 L j
theorem Gl {m:Nat}{V:Array Bool}(h:MaskOk ops.size m V)(j:Nat):uz (jz ops.toList) m j=qg ops V j:=by
 unfold uz qg
 rw [B6,getElem?_toList]
 cases ops[j]? with
 |none=>rfl
 |some o=>exact Ey h o
theorem Ir {V:Array Bool}{j:Nat}(h:qg ops V j=true):j<ops.size:=by
 unfold qg at h
 split at h
 ·rename_i o ho;exact (Array.getElem?_eq_some_iff.1 ho).1
 ·cases h
theorem w7 (hf:dT ops=true){i:Nat}(hi:i<ops.size):∀{l:List Nat},qh ops.size (qV ops.toList 0 []) i l=true→(l.all λk=>anc ops ops.size i k)=true
 |[],_=>rfl
 |k::l,h=>by
  simp only [qh,and_eq_true] at h
  rw [List.all_cons,NW hf hi h.1,w7 hf hi h.2];rfl
theorem fJ (hf:dT ops=true)(hF:∀i∈F,i<ops.size):∀(l:List (Nat × FK)) (m:Nat) (V:Array Bool) (pend:List Nat),MaskOk ops.size m V→
  cT P ops (jz ops.toList) (qV ops.toList 0 []) flo F l m pend=true→cc P ops flo F l V pend=true
 |[],m,V,pend,hm,h=>by
  simp only [cT] at h
  simp only [cc,eO hm];exact h
 | (i,.own)::l,m,V,pend,hm,h=>by
  simp only [cT,and_eq_true] at h
  obtain ⟨⟨⟨h1,h2⟩,h3⟩,h4⟩:=h
  rw [←eO hm] at h1
  have hlt:i<ops.size:=by
   obtain ⟨_,o,ho,_⟩:=mem_ready.1 (bS.1 h1)
   exact (Array.getElem?_eq_some_iff.1 ho).1
  simp only [cc,and_eq_true]
  exact ⟨⟨⟨h1,h2⟩,h3⟩,fJ hf hF l _ _ _ (hm.set hlt) h4⟩
 | (i,.turn pe)::l,m,V,pend,hm,h=>by
  simp only [cT,and_eq_true] at h
  obtain ⟨⟨⟨⟨h0,h1⟩,h2⟩,h3⟩,h4⟩:=h
  rw [←eO hm] at h1
  rw [←eO (hm.all F _ _ hF)] at h3
  have hlt:i<ops.size:=by
   obtain ⟨_,o,ho,_⟩:=mem_ready.1 (bS.1 h1)
   exact (Array.getElem?_eq_some_iff.1 ho).1
  simp only [cc,and_eq_true]
  exact ⟨⟨⟨⟨h0,h1⟩,h2⟩,h3⟩,fJ hf hF l _ _ _ (hm.set hlt) h4⟩
 | (i,.put pe)::l,m,V,pend,hm,h=>by
  simp only [cT,and_eq_true] at h
  obtain ⟨⟨⟨⟨h0,h1⟩,h2⟩,h3⟩,h4⟩:=h
  rw [←eO hm] at h1
  rw [←eO (hm.all F _ _ hF)] at h3
  have hlt:i<ops.size:=by
   obtain ⟨_,o,ho,_⟩:=mem_ready.1 (bS.1 h1)
   exact (Array.getElem?_eq_some_iff.1 ho).1
  simp only [cc,and_eq_true]
  exact ⟨⟨⟨⟨h0,h1⟩,h2⟩,h3⟩,fJ hf hF l _ _ _ (hm.set hlt) h4⟩
 | (i,.bar)::l,m,V,pend,hm,h=>by
  simp only [cT,and_eq_true] at h
  obtain ⟨⟨⟨⟨h1,h2⟩,h3⟩,h5⟩,h4⟩:=h
  rw [←eO hm] at h1
  rw [←eO (hm.all F _ _ hF)] at h3
  have hlt:i<ops.size:=by
   obtain ⟨_,o,ho,_⟩:=mem_ready.1 (bS.1 h1)
   exact (Array.getElem?_eq_some_iff.1 ho).1
  simp only [cc,and_eq_true]
  exact ⟨⟨⟨⟨h1,h2⟩,h3⟩,w7 hf hlt h5⟩,fJ hf hF l _ _ _ (hm.set hlt) h4⟩
 | (i,.late)::l,m,V,pend,hm,h=>by
  simp only [cT,and_eq_true] at h
  obtain ⟨⟨⟨h0,h1⟩,h3⟩,h4⟩:=h
  rw [←eO hm] at h1
  rw [←eO (hm.all (ka i F) _ _ λk hk=>hF k (pg hk))] at h3
  have hlt:i<ops.size:=by
   obtain ⟨_,o,ho,_⟩:=mem_ready.1 (bS.1 h1)
   exact (Array.getElem?_eq_some_iff.1 ho).1
  simp only [cc,and_eq_true]
  exact ⟨⟨⟨by simpa only [and_eq_true] using h0,h1⟩,h3⟩,fJ hf hF l _ _ _ (hm.set hlt) h4⟩
 | (i,.box j)::l,m,V,pend,hm,h=>by
  simp only [cT,and_eq_true] at h
  obtain ⟨⟨⟨⟨h0,h1⟩,h2⟩,h3⟩,h4⟩:=h
  rw [←eO hm] at h1
  rw [←eO (hm.all (ka j F) _ _ λk hk=>hF k (pg hk))] at h3
  have hlt:i<ops.size:=by
   obtain ⟨_,o,ho,_⟩:=mem_ready.1 (bS.1 h1)
   exact (Array.getElem?_eq_some_iff.1 ho).1
  rw [Gl (hm.set hlt)] at h2
  have hltj:=Ir h2
  simp only [cc,and_eq_true]
  exact ⟨⟨⟨⟨by simpa only [and_eq_true] using h0,h1⟩,h2⟩,h3⟩,fJ hf hF l _ _ _ ((hm.set hlt).set hltj) h4⟩
theorem kY:∀(L:List Oper) (k d i:Nat),(d,i)∈ge k L ↔ ∃j o,L[j]?=some o∧i=k+j∧o.dst=some d
 |[],k,d,i=>by simp [ge]
 |o::L,k,d,i=>by
  have ih:=kY L (k+1) d i
  have step:(∃j o',L[j]?=some o'∧i=k+1+j∧o'.dst=some d) ↔ ∃j o',(o::L)[j+1]?=some o'∧i=k+(j+1)∧o'.dst=some d:=by
   constructor
   ·rintro ⟨j,o',h1,h2,h3⟩;exact ⟨j,o',by simpa using h1,by omega,h3⟩
   ·rintro ⟨j,o',h1,h2,h3⟩;exact ⟨j,o',by simpa using h1,by omega,h3⟩
  simp only [ge]
  split
  ·rename_i d' hd'
   rw [mem_cons,ih,step]
   constructor
   ·rintro (h | ⟨j,o',h⟩)
    ·injection h with h1 h2
     exact ⟨0,o,rfl,by omega,by rw [hd',h1]⟩
    ·exact ⟨j+1,o',h⟩
   ·rintro ⟨j,o',h1,h2,h3⟩
    cases j with
    |zero=>
     simp at h1;subst h1
     rw [hd'] at h3;injection h3 with h3
     left;rw [h3,h2];rfl
    |succ j=>exact .inr ⟨j,o',h1,h2,h3⟩
  ·rename_i hd'
   rw [ih,step]
   constructor
   ·rintro ⟨j,o',h⟩;exact ⟨j+1,o',h⟩
   ·rintro ⟨j,o',h1,h2,h3⟩
    cases j with
    |zero=>
     simp at h1;subst h1
     rw [hd'] at h3;cases h3
    |succ j=>exact ⟨j,o',h1,h2,h3⟩
theorem vc:∀{W:List (Nat × Nat)} {m:Nat},qW W m=true→(∀p∈W,m.testBit p.1=false)∧W.Pairwise λp q=>p.1≠q.1
 |[],_,_=>⟨by simp,List.Pairwise.nil⟩
 |p::l,m,h=>by
  simp only [qW] at h
  cases hb:gC m p.1 with
  |true=>rw [hb] at h;cases h
  |false=>
   rw [hb,cond_false] at h
   obtain ⟨h1,h2⟩:=vc h
   rw [oZ] at hb
   refine ⟨λq hq=> ?_,List.pairwise_cons.2 ⟨λq hq he=> ?_,h2⟩⟩
   ·rcases mem_cons.1 hq with rfl | hq
    ·exact hb
    ·have:=h1 q hq
     rw [lG,Bool.or_eq_false_iff] at this
     exact this.1
   ·have:=h1 q hq
    rw [lG,Bool.or_eq_false_iff,o7,decide_eq_false_iff_not] at this
    exact this.2 he
theorem pi:∀{W:List (Nat × Nat)},(W.Pairwise λp q=>p.1≠q.1)→∀{d i:Nat},(d,i)∈W→sI W d=some i
 |[],_,_,_,h=>by cases h
 |p::l,hp,d,i,h=>by
  simp only [sI]
  rcases mem_cons.1 h with rfl | h
  ·simp [beq_refl]
  ·have hne:=(List.pairwise_cons.1 hp).1 _ h
   cases hb:beq p.1 d with
   |true=>exact absurd (eq_of_beq_eq_true hb) hne
   |false=>rw [cond_false];exact pi (List.pairwise_cons.1 hp).2 h
theorem w8 {W:List (Nat × Nat)}{d:Nat}:∀{l:List Nat},qi W d l=true→∀s∈l,∀i,sI W s=some i→gC d i=true
 |[],_,s,h=>by cases h
 |a::l,h,s,hs=>by
  simp only [qi,and_eq_true] at h
  intro i hi
  rcases mem_cons.1 hs with rfl | hs
  ·have h1:=h.1
   rw [hi] at h1;exact h1
  ·exact w8 h.2 s hs i hi
theorem zU {W:List (Nat × Nat)}:∀{L:List Oper},wW ops W L=true→∀o∈L,qi W (fF o.after.toList) (o.looksAt ops)=true
 |[],_,o,h=>by cases h
 |a::l,h,o,ho=>by
  simp only [wW,and_eq_true] at h
  rcases mem_cons.1 ho with rfl | ho
  ·exact h.1
  ·exact zU h.2 o ho
theorem K2 (hf:dT ops=true)(h:F8 ops=true):nX ops=true:=by
 unfold F8 at h
 rw [and_eq_true] at h
 obtain ⟨h1,h2⟩:=h
 obtain ⟨_,hp⟩:=vc h1
 have look:∀(i j d:Nat) (o oj:Oper),ops[i]?=some o→o.dst=some d→ops[j]?=some oj→inList (oj.looksAt ops) d=true→∃e∈oj.after.toList,binds .any e=true∧e.on=i:=λi j d o oj ho hd hoj hl=>by
  have hm:(d,i)∈ge 0 ops.toList:=(kY _ _ _ _).2 ⟨i,o,by rw [getElem?_toList];exact ho,by omega,hd⟩
  have hfw:=pi hp hm
  have hmem:oj∈ops.toList:=by
   obtain ⟨hlt,he⟩:=Array.getElem?_eq_some_iff.1 hoj
   rw [←he];exact mem_toList_iff.2 (getElem_mem hlt)
  have:=w8 (zU h2 oj hmem) d (bS.1 hl) i hfw
  rw [oZ] at this
  obtain ⟨e,he,hb,hon⟩:=(jS _ _).1 this
  exact ⟨e,he,hb,hon⟩
 unfold nX
 refine all_eq_true.2 λi hi=> ?_
 cases ho:ops[i]? with
 |none=>rfl
 |some o=>
  simp only
  cases hd:o.dst with
  |none=>rfl
  |some d=>
   simp only [and_eq_true,not_eq_true']
   refine ⟨?_,all_eq_true.2 λj hj=> ?_⟩
   ·cases hl:inList (o.looksAt ops) d with
    |false=>rfl
    |true=>
     obtain ⟨e,he,hb,hon⟩:=look i i d o o ho hd ho hl
     have:=(fj hf ho).1 e (mem_toList_iff.1 he) hb
     omega
   ·by_cases hji:j=i
    ·subst hji;simp [beq_refl]
    ·cases hoj:ops[j]? with
     |none=>simp
     |some oj=>
      simp only [or_eq_true,and_eq_true]
      right
      refine ⟨?_,?_⟩
      ·cases hdj:oj.dst with
       |none=>rfl
       |some d'=>
        simp only [not_eq_true']
        cases hb:beq d' d with
        |false=>rfl
        |true=>
         have:=eq_of_beq_eq_true hb
         subst this
         have m1:(d',i)∈ge 0 ops.toList:=(kY _ _ _ _).2 ⟨i,o,by rw [getElem?_toList];exact ho,by omega,hd⟩
         have m2:(d',j)∈ge 0 ops.toList:=(kY _ _ _ _).2 ⟨j,oj,by rw [getElem?_toList];exact hoj,by omega,hdj⟩
         have e1:=pi hp m1
         rw [pi hp m2] at e1
         injection e1 with e1
         exact absurd e1 hji
      ·cases hl:inList (oj.looksAt ops) d with
       |false=>exact .inl rfl
       |true=>
        right
        obtain ⟨e,he,hb,hon⟩:=look i j d o oj ho hd hoj hl
        exact any_eq_true.2 ⟨e,he,by rw [hb,hon,beq_refl];rfl⟩
end
section
variable {P:Program}{G:aP}{F:gD}{ops:Array Oper}{r:Option Nat}{flo:List (Nat × Option Nat)}{σ:List TV}{T T0:VT}{V R:Array Bool}{pend:List Nat}{g:Gh}{w:World}{a:Act}{prot:Nat→Option Nat}
theorem Gm (st:VStat P ops flo)(inv:VInv P G ops flo σ T T0 V R pend g w a.tmps.toList prot)(hG:GOk G g w)(hbx:dr P G ops flo V σ flo=true){QQ:Exit→Act→World→Prop}{K:Act→World→Prop}{j:Nat}(hj:j∈ready .any ops R)(hVF:On V j∨(¬On V j∧j∈cg flo))
  (next:∀g' w' (a':Act) prot',VInv P G ops flo σ T T0 V (R.setIfInBounds j true) pend g' w' a'.tmps.toList prot'→Evo g w g' w'→(∀n,Fix n g T w T w')→a'.defers=a.defers→K a' w'):wpOpIn (ct r) 0 P ops QQ j K a w:=by
 rcases hVF with hV | ⟨hV,hF⟩
 ·exact pd st inv hG hj hV λg' w' a'=>next g' w' a' prot
 ·obtain ⟨i,jo,h1,h2⟩:=cq.1 hF
  rcases h2 with rfl | rfl
  ·exact Gj st inv h1 hj hV next
  ·exact Gk st inv hG hbx h1 hj hV λg' w' a'=>next g' w' a' prot
theorem w9 {QQ:Exit→Act→World→Prop}(h:ready .any ops R= [])(hq:QQ .normal a w):∀fuel,wpAnyIn (ct r) 0 P .any ops QQ fuel R a w
 | 0=>⟨h,hq⟩
 |_+1=>⟨λ_=>hq,λj hj=>by rw [h] at hj;cases hj⟩
theorem nj {QQ:Exit→Act→World→Prop}(hf:dT ops=true)(hs:R.size=ops.size){i:Nat}(hi:i<ops.size)(hn:¬On R i){fuel:Nat}(hfu:kX R≤fuel)
  (step:∀n,n<fuel→∀j∈ready .any ops R,kX (R.setIfInBounds j true)≤n→wpOpIn (ct r) 0 P ops QQ j (wpAnyIn (ct r) 0 P .any ops QQ n (R.setIfInBounds j true)) a w):wpAnyIn (ct r) 0 P .any ops QQ fuel R a w:=by
 cases fuel with
 |zero=>exact absurd (Iq (by omega) i (by rw [hs];exact hi)) hn
 |succ n=>
  refine ⟨λh=>absurd (oa hf hs h i hi) hn,λj hj=>step n (Nat.lt_succ_self n) j hj ?_⟩
  obtain ⟨hun,o,ho,_⟩:=mem_ready.1 hj
  have:=K1 (R:=R) (i:=j) (by rw [hs];exact (Array.getElem?_eq_some_iff.1 ho).1) (fI hun)
  omega
theorem kZ {l:List Nat}{q:Nat→Bool}(h:l.all q=true){k:Nat}(hk:k∈l):q k=true:=all_eq_true.1 h k hk
theorem B7:∀{l m:List Nat},BW l m=true→l=m
 |[],[],_=>rfl
 |a::l,b::m,h=>by
  simp only [BW,and_eq_true] at h
  rw [eq_of_beq_eq_true h.1,B7 h.2]
 |[],_::_,h=>by cases h
 |_::_,[],h=>by cases h
theorem xa {b:Bool}{X:Prop}{n:Nat}{op:Op}{l:List TV}(h:cond b X (aQ n op l)):b=true∧X:=by
 cases b with
 |false=>exact h.elim
 |true=>exact ⟨rfl,h⟩
theorem B8 {id off n:Nat}{l:List Nat}(h:pc P G ops id off n σ l=true){k:Nat}{o:Oper}(hk:k∈l)(ho:ops[k]?=some o)(hw:bP ops (only ops o σ) o=some true)(hp:aW P o.op (bb G (only ops o σ))=none):apartRead P id off n o.op (bb G (only ops o σ))=true:=by
 induction l with
 |nil=>cases hk
 |cons a l ih=>
  unfold pc at h
  rw [and_eq_true] at h
  rcases mem_cons.1 hk with e | hk
  ·subst e
   have h1:=h.1
   rw [ho] at h1
   simp only [hw,hp,isSome_none,Bool.false_or] at h1
   exact h1
  ·exact ih h.2 hk
theorem Ed {T0 T1:VT}{l:List Nat}(h:qY P G ops T0 T1 σ l=true){k:Nat}{o:Oper}{y:TV}(hk:k∈l)(ho:ops[k]?=some o)(hw:bP ops (only ops o σ) o=some true)(hp:aW P o.op (bb G (only ops o σ))=none)(hr:aY P T0 o.op (bb G (only ops o σ))=some y):aY P T1 o.op (bb G (only ops o σ))=some y:=by
 induction l with
 |nil=>cases hk
 |cons a l ih=>
  unfold qY at h
  rw [and_eq_true] at h
  rcases mem_cons.1 hk with e | hk
  ·subst e
   have h1:=h.1
   rw [ho] at h1
   simp only [hw,hp,isSome_none,Bool.false_or,hr] at h1
   split at h1
   ·rename_i x y' hx hy
    injection hx with hx;subst hx
    rw [hy,yM _ _ h1]
   ·rename_i hx;cases hx
   ·cases h1
  ·exact ih h.2 hk
theorem ve {T0 T1:VT}{l:List Nat}(h:nZ P G ops T0 T1 σ l){k:Nat}{o:Oper}{y:TV}(hk:k∈l)(ho:ops[k]?=some o)(hw:bP ops (only ops o σ) o=some true)(hp:aW P o.op (bb G (only ops o σ))=none)(hr:aY P T0 o.op (bb G (only ops o σ))=some y):aY P T1 o.op (bb G (only ops o σ))=some y:=by
 induction l with
 |nil=>cases hk
 |cons a l ih=>
  unfold nZ at h
  rcases mem_cons.1 hk with e | hk
  ·subst e
   have h1:=h.1
   rw [ho] at h1
   simp only [hw,hp,isSome_none,cond_false] at h1
   rw [←h1];exact hr
  ·exact ih h.2 hk
theorem Un {b c:Bool}{A X:Prop}{n:Nat}{op:Op}{l:List TV}(h:cond b (A∧X) (cond c X (aQ n op l))):(A∨c=true)∧X:=by
 cases b with
 |true=>exact ⟨.inl h.1,h.2⟩
 |false=>
  cases c with
  |true=>exact ⟨.inr rfl,h⟩
  |false=>exact h.elim
theorem VPi.mono {ro:Nat}{o:Oper}{s:List TV}{T:VT}{K K':List TV→VT→Prop}(h:VPi P G ro o s T K)(k:∀s T,K s T→K' s T):VPi P G ro o s T K':=
 λr g w a next Q rw0 hG hσ hn=>h r g w a next Q rw0 hG hσ λσ' T' g' w' a' hp hk=>hn σ' T' g' w' a' hp (k _ _ hk)
theorem K3 {g:Gh}{w:World}(r:RW g T w){ro:Nat}{t:TypeId}{id off:Nat}{x:TV}{ua u:Value}{T':VT}(h:wY P ro T t (.ptr id off) x=some T')(ha:VR g w (.ptr id off) ua)(hx:VR g w x u):
  ∃g' w',(storeAt t ua u).run P w=.ok () w'∧VR g' w' (.val undef) undef∧Evo g w g' w'∧RW g' T' w'∧Fix ro g T w T' w':=by
 unfold wY at h
 split at h
 ·rename_i y T1 h1
  injection h with h;subst h
  obtain ⟨g',w',k1,_,k3,k4,k5⟩:=wM (P:=P) r h1 ha hx
  exact ⟨g',w',k1,.val _,k3,k4,k5⟩
 ·cases hr:ble ro id with
  |false=>simp only [hr] at h;cases h
  |true=>
   simp only [hr,cond_true,map_eq_some_iff] at h
   obtain ⟨⟨y,T1⟩,h1,h2⟩:=h
   simp only at h2;subst h2
   obtain ⟨g',w',k1,_,k3,k4,k5⟩:=nh (P:=P) (ro:=ro) r h1 ha hx (le_of_ble_eq_true hr)
   exact ⟨g',w',k1,.val _,k3,k4,k5⟩
theorem zV {call:gE}{rnd:iY}(hc:fH P G call)(hrr:gF P G rnd)(st:VStat P ops flo){ro:Nat}{K:List TV→VT→Prop}{gs:Gh}{Ts:VT}{ws:World}{ds:List Deferred}{QQ:Act→World→Prop}
  (hq:∀σ' T' g' w' (a':Act),K σ' T'→Evo gs ws g' w'→RW g' T' w'→VRs g' w' σ' a'.tmps.toList→a'.defers=ds→Fix ro gs Ts ws T' w'→QQ a' w'):
  ∀(fuel:Nat) (l:List (Nat × FK)) (V:Array Bool) (T0:VT) (pend:List Nat) (σ:List TV) (T:VT) (R:Array Bool) (g:Gh) (w:World) (a:Act) (prot:Nat→Option Nat),
   cc P ops flo (cg flo) l V pend=true→cG P G F call rnd ro ops flo V T0 l σ T K→VInv P G ops flo σ T T0 V R pend g w a.tmps.toList prot→GOk G g w→a.defers=ds→Evo gs ws g w→Fix ro gs Ts ws T w→ro≤T0.objs.length→kX R≤fuel→
   wpAnyIn (ct r) 0 P .any ops (dX QQ) fuel R a w:=by
 intro fuel
 induction fuel using Nat.strongRecOn with
 |_ fuel ihf=>
 intro l
 induction l with
 |nil=>
  intro V T0 pend σ T R g w a prot hp h inv hG hds hes hfx hro hfu
  have hallV:∀i,i<ops.size→On V i:=oa st.flow inv.vs (by simpa [cc] using hp)
  by_cases hall:∀i,i<ops.size→On R i
  ·refine w9 (sO hall) (hq σ T g w a h hes inv.base ⟨inv.rel.1,λs x u hs hu=>inv.rel.2 s x u hs hu λk o hk _=> ?_⟩ hds hfx) _
   have hlt:=(Array.getElem?_eq_some_iff.1 hk).1
   exact ⟨hallV k hlt,hall k hlt⟩
  ·obtain ⟨i,hi⟩:=not_forall.1 hall
   obtain ⟨hi,hn⟩:=Classical.not_imp.1 hi
   refine nj st.flow inv.rs hi hn hfu λn hlt j hj hoff=> ?_
   obtain ⟨_,o,ho,_⟩:=mem_ready.1 hj
   exact pd st inv hG hj (hallV j (Array.getElem?_eq_some_iff.1 ho).1) λg' w' a' inv' e fx hd=>ihf n hlt [] V T0 pend σ T _ g' w' a' prot hp h inv' (hG.mono e) (hd.trans hds) (hes.trans e) (hfx.trans hes (fx ro)) hro hoff
 |cons p l ih=>
  intro V T0 pend σ T R g w a prot hp h inv hG hds hes hfx hro hfu
  obtain ⟨i,k⟩:=p
  --while it waits
  have wait:∀(hbx:dr P G ops flo V σ flo=true) {i0:Nat} (hi0:i0<ops.size) (hn0:¬On R i0)
    (hready:∀j∈ready .any ops R,¬On V j→j∉cg flo→∀n,n<fuel→kX (R.setIfInBounds j true)≤n→wpOpIn (ct r) 0 P ops (dX QQ) j (wpAnyIn (ct r) 0 P .any ops (dX QQ) n (R.setIfInBounds j true)) a w),
    wpAnyIn (ct r) 0 P .any ops (dX QQ) fuel R a w:=λhbx i0 hi0 hn0 hready=>by
   refine nj st.flow inv.rs hi0 hn0 hfu λn hlt j hj hoff=> ?_
   by_cases hVF:On V j∨(¬On V j∧j∈cg flo)
   ·exact Gm st inv hG hbx hj hVF λg' w' a' prot' inv' e fx hd=>ihf n hlt ((i,k)::l) V T0 pend σ T _ g' w' a' prot' hp h inv' (hG.mono e) (hd.trans hds) (hes.trans e) (hfx.trans hes (fx ro)) hro hoff
   ·have h1:¬On V j:=λh=>hVF (.inl h)
    exact hready j hj h1 (λh=>hVF (.inr ⟨h1,h⟩)) n hlt hoff
  cases k with
  |own=>
   simp only [cc,and_eq_true,not_eq_true'] at hp
   obtain ⟨⟨⟨hri,hnF⟩,hnd⟩,hp⟩:=hp
   have hri:=bS.1 hri
   have hF:=fS hnF
   obtain ⟨_,o,ho,_⟩:=mem_ready.1 hri
   simp only [ho] at hnd hp
   simp only [cG,ho] at h
   replace h:=eD h
   have hsub:∀k∈pend,k∈(bif isRead P o.op then i::pend else pend):=λk hk=>by
    cases isRead P o.op
    ·exact hk
    ·exact mem_cons_of_mem _ hk
   have go:∀{y},((bP ops (only ops o σ) o=some false∧y=.val undef)∨(bP ops (only ops o σ) o=some true∧(kW P G ⟨[],[]⟩ o (only ops o σ) y∨(i∈(bif isRead P o.op then i::pend else pend)∧aW P o.op (bb G (only ops o σ))=none∧aY P T0 o.op (bb G (only ops o σ))=some y))))→
     cG P G F call rnd ro ops flo (V.setIfInBounds i true) T0 l (bv σ o.dst y) T K→wpAnyIn (ct r) 0 P .any ops (dX QQ) fuel R a w:=λhow h=>
    ih _ T0 _ _ T R g w a prot hp h (B5 st inv ho hri hF hnd hsub how) hG hds hes hfx hro hfu
   split at h
   ·rename_i b hb
    cases b with
    |true=>
     simp only [cond_true] at h
     split at h
     ·rename_i y hy
      obtain ⟨hpu,h⟩:=h
      rcases zN hpu with h1 | ⟨h1,h2,h3⟩
      ·exact go (.inr ⟨hb,.inl h1⟩) h
      ·exact go (.inr ⟨hb,.inr ⟨by rw [h1];exact mem_cons_self,h2,h3⟩⟩) h
     ·exact h.elim
     ·split at h
      ·rename_i y hy
       rcases zO hy with h1 | ⟨h1,h2,h3⟩
       ·exact go (.inr ⟨hb,.inl h1⟩) h
       ·exact go (.inr ⟨hb,.inr ⟨by rw [h1];exact mem_cons_self,h2,h3⟩⟩) h
      ·exact h.elim
    |false=>
     simp only [cond_false] at h
     exact go (.inl ⟨hb,rfl⟩) h
   ·exact h.elim
  |turn pe=>
   simp only [cc,and_eq_true,not_eq_true'] at hp
   obtain ⟨⟨⟨⟨hpe,hri⟩,hnF⟩,hrd⟩,hp⟩:=hp
   have hpe:=B7 hpe
   subst hpe
   have hri:=bS.1 hri
   have hF:=fS hnF
   obtain ⟨hun,o,ho,_⟩:=mem_ready.1 hri
   simp only [cG,ho] at h
   replace h:=eD h
   split at h
   ·rename_i b hb
    cases hbx:dr P G ops flo V σ flo with
    |false=>rw [hbx] at h;exact h.elim
    |true=>
     rw [hbx] at h
     simp only [cond_true] at h
     have hnV:=fI hun
     have hle:T0.objs.length≤T.objs.length:=by
      have:=congrArg length inv.t0
      rw [length_take] at this;omega
     refine wait hbx (Array.getElem?_eq_some_iff.1 ho).1 (λhR=>hF (inv.rv i hR hnV)) λj hj hVj hFj n hlt hoff=> ?_
     have h1:=kZ hrd (re inv hj hVj hFj)
     simp only [or_eq_true] at h1
     rcases h1 with h1 | h1
     ·have h1:=eq_of_beq_eq_true h1
      subst h1
      have ht0T:T.takeO T0.objs.length=⟨T0.objs,T.tails⟩:=by unfold VT.takeO;rw [inv.t0]
      refine mw st inv hG ho hj hri hF hb (ro:=ro) (X:=λσ' T'=>(∀k ok y,k∈pe→ops[k]?=some ok→bP ops (only ops ok σ) ok=some true→aW P ok.op (bb G (only ops ok σ))=none→aY P T0 ok.op (bb G (only ops ok σ))=some y→aY P (T'.takeO T0.objs.length) ok.op (bb G (only ops ok σ))=some y)∧cG P G F call rnd ro ops flo (V.setIfInBounds j true) (T'.takeO T0.objs.length) l σ' T' K)
       (λhbt=> ?_) (λhbf=> ?_) (pend':=pe) (λT'=>T'.takeO T0.objs.length) (λσ' T' w' g' hX fx e=> ?_) (λσ' T' k ok y hX h1 h2 _ h3 h4 h5=>⟨h1,hX.1 k ok y h1 h2 h3 h4 h5⟩) λσ' T' g' w' a' hX inv' e fx hd=>ihf n hlt l _ _ pe σ' T' _ g' w' a' prot hp hX.2 inv' (hG.mono e) (hd.trans hds) (hes.trans e) (hfx.trans hes fx) (by
        have:=fx.len
        simp only [VT.takeO,length_take];omega) hoff
      ·rw [hbt] at h
       simp only [cond_true] at h
       refine VPi.mono (ix hc hrr h) λs T' hk=> ?_
       obtain ⟨hsame,hk⟩:=Un hk
       refine ⟨λk ok y hk hok hwk hpu hrd=> ?_,hk⟩
       rcases hsame with hsame | hsame
       ·exact ve hsame hk hok hwk hpu hrd
       ·exact Ed hsame hk hok hwk hpu hrd
      ·rw [hbf] at h
       simp only [cond_false] at h
       exact ⟨λk ok y _ _ _ _ hrd=>jT (T0:=T0) (T:=T.takeO T0.objs.length) (by rw [ht0T];simp) hrd,h⟩
      ·simp only [VT.takeO,length_take]
       rw [List.take_eq_take_iff]
       omega
     ·exact absurd (bS.1 h1) hFj
   ·exact h.elim
  |bar=>
   simp only [cc,and_eq_true,not_eq_true'] at hp
   obtain ⟨⟨⟨⟨hri,hnF⟩,hrd⟩,hanc⟩,hp⟩:=hp
   have hri:=bS.1 hri
   have hF:=fS hnF
   obtain ⟨hun,o,ho,_⟩:=mem_ready.1 hri
   simp only [cG,ho] at h
   replace h:=eD h
   split at h
   ·rename_i b hb
    cases hbx:dr P G ops flo V σ flo with
    |false=>rw [hbx] at h;exact h.elim
    |true=>
     rw [hbx] at h
     simp only [cond_true] at h
     have hnV:=fI hun
     have hle:T0.objs.length≤T.objs.length:=by
      have:=congrArg length inv.t0
      rw [length_take] at this;omega
     refine wait hbx (Array.getElem?_eq_some_iff.1 ho).1 (λhR=>hF (inv.rv i hR hnV)) λj hj hVj hFj n hlt hoff=> ?_
     have h1:=kZ hrd (re inv hj hVj hFj)
     simp only [or_eq_true] at h1
     rcases h1 with h1 | h1
     ·have h1:=eq_of_beq_eq_true h1
      subst h1
      obtain ⟨_,oj,hoj,hdep⟩:=mem_ready.1 hj
      have hpe:∀k∈pend,On R k:=λk hk=>kV inv.cr ops.size j k (all_eq_true.1 hanc k hk) λo' ho' e he hbb=>by
       rw [hoj] at ho';injection ho' with ho';subst ho';exact hdep e he hbb
      refine mw st inv hG ho hj hri hF hb (X:=λσ' T'=>cG P G F call rnd ro ops flo (V.setIfInBounds j true) T' l σ' T' K) (λhbt=>ix hc hrr (by rw [hbt] at h;exact h)) (λhbf=>by rw [hbf] at h;exact h) (pend':= []) (λT'=>T') (λσ' T' w' g' _ fx e=>by simp) (λ_ _ k ok y _ h1 _ h2 _ _ _=>absurd (hpe k h1) h2) λσ' T' g' w' a' hX inv' e fx hd=>ihf n hlt l _ T' [] σ' T' _ g' w' a' prot hp hX inv' (hG.mono e) (hd.trans hds) (hes.trans e) (hfx.trans hes fx) (le_trans (le_trans hro hle) fx.len) hoff
     ·exact absurd (bS.1 h1) hFj
   ·exact h.elim
  |put pe=>
   simp only [cc,and_eq_true,not_eq_true'] at hp
   obtain ⟨⟨⟨⟨hpe,hri⟩,hnF⟩,hrd⟩,hp⟩:=hp
   have hpe:=B7 hpe
   subst hpe
   have hri:=bS.1 hri
   have hF:=fS hnF
   obtain ⟨hun,o,ho,_⟩:=mem_ready.1 hri
   simp only [cG,ho] at h
   replace h:=eD h
   split at h
   ·rename_i b hb
    cases hbx:dr P G ops flo V σ flo with
    |false=>rw [hbx] at h;exact h.elim
    |true=>
     rw [hbx] at h
     simp only [cond_true] at h
     have hnV:=fI hun
     have hle:T0.objs.length≤T.objs.length:=by
      have:=congrArg length inv.t0
      rw [length_take] at this;omega
     refine wait hbx (Array.getElem?_eq_some_iff.1 ho).1 (λhR=>hF (inv.rv i hR hnV)) λj hj hVj hFj n hlt hoff=> ?_
     have h1:=kZ hrd (re inv hj hVj hFj)
     simp only [or_eq_true] at h1
     rcases h1 with h1 | h1
     ·have h1:=eq_of_beq_eq_true h1
      subst h1
      have ht0T:T.takeO T0.objs.length=⟨T0.objs,T.tails⟩:=by unfold VT.takeO;rw [inv.t0]
      refine mw st inv hG ho hj hri hF hb (ro:=ro) (X:=λσ' T'=>(T'.objs.length=T.objs.length∧∀k ok y,k∈pe→ops[k]?=some ok→bP ops (only ops ok σ) ok=some true→aW P ok.op (bb G (only ops ok σ))=none→aY P T0 ok.op (bb G (only ops ok σ))=some y→aY P (T'.takeO T0.objs.length) ok.op (bb G (only ops ok σ))=some y)∧cG P G F call rnd ro ops flo (V.setIfInBounds j true) (T'.takeO T0.objs.length) l σ' T' K)
       (λhbt=> ?_) (λhbf=> ?_) (pend':=pe) (λT'=>T'.takeO T0.objs.length) (λσ' T' w' g' hX fx e=> ?_) (λσ' T' k ok y hX h1 h2 _ h3 h4 h5=>⟨h1,hX.1.2 k ok y h1 h2 h3 h4 h5⟩) λσ' T' g' w' a' hX inv' e fx hd=>ihf n hlt l _ _ pe σ' T' _ g' w' a' prot hp hX.2 inv' (hG.mono e) (hd.trans hds) (hes.trans e) (hfx.trans hes fx) (by
        have:=hX.1.1
        simp only [VT.takeO,length_take];omega) hoff
      ·rw [hbt] at h
       simp only [cond_true] at h
       split at h
       ·rename_i t ad x hop
        split at h
        ·rename_i id off new had hnew
         split at h
         ·rename_i T1 hT1
          obtain ⟨hpa,h⟩:=xa h
          obtain ⟨hag,hlen⟩:=Im hnew hT1
          refine VPi.of (by rw [hop];rfl) λg w ρ r hρ=> ?_
          have hax:=hρ ad
          rw [had] at hax
          obtain ⟨g',w',k1,k2,k3,k4,k5⟩:=K3 (P:=P) r hT1 hax (hρ x)
          refine ⟨.skip,undef,g',w',.val undef,T1,?_,rfl,⟨⟨hlen,λk ok y hk hok hwk hpu hrd=> ?_⟩,h⟩,k2,k3,k4,k5⟩
          ·obtain ⟨dst,op,ty,pos,af,gd⟩:=o
           simp only at hop;subst hop
           simp [execOp,k1]
          ·have hap:=B8 hpa hk hok hwk hpu
           have h6:aY P (T.takeO T0.objs.length) ok.op (bb G (only ops ok σ))=some y:=jT (T0:=T0) (T:=T.takeO T0.objs.length) (by rw [ht0T];simp) hrd
           rw [←Gi (AgreeOut.take hag) hap];exact h6
         ·exact h.elim
        ·exact h.elim
       ·exact h.elim
      ·rw [hbf] at h
       simp only [cond_false] at h
       refine ⟨⟨rfl,λk ok y _ _ _ _ hrd=>jT (T0:=T0) (T:=T.takeO T0.objs.length) (by rw [ht0T];simp) hrd⟩,h⟩
      ·simp only [VT.takeO,length_take,List.take_take,Nat.min_self]
       congr 1
       omega
     ·exact absurd (bS.1 h1) hFj
   ·exact h.elim
  |late=>
   simp only [cc,and_eq_true] at hp
   obtain ⟨⟨⟨hfl,hri⟩,hrd⟩,hp⟩:=hp
   have hri:=bS.1 hri
   obtain ⟨hun,o,ho,_⟩:=mem_ready.1 hri
   have hf:(i,none)∈flo:=by
    obtain ⟨q,hq,h1⟩:=any_eq_true.1 hfl
    simp only [and_eq_true] at h1
    obtain ⟨q1,q2⟩:=q
    have h2:=eq_of_beq_eq_true h1.1
    simp only at h2
    subst h2
    cases q2 with
    |none=>exact hq
    |some _=>cases h1.2
   simp only [cG,ho] at h
   split at h
   ·rename_i y T' hy
    cases hbx:dr P G ops flo V σ flo with
    |false=>rw [hbx] at h;exact h.elim
    |true=>
     rw [hbx] at h
     simp only [cond_true] at h
     have hnV:=fI hun
     by_cases hR:On R i
     ·obtain ⟨o',d,b,h1,h2,h3,blk,f,vo,mk,h4,h5,h6,h7⟩:=inv.flt i none hf hR hnV
      rw [ho] at h1;injection h1 with h1;subst h1
      have h8:=h5 T
      rw [hy] at h8;injection h8 with h8;injection h8 with h8 h9;subst h8 h9
      have hlt:=(Array.getElem?_eq_some_iff.1 ho).1
      obtain ⟨g',prot',inv',e⟩:=w6 (V':=V.setIfInBounds i true) (y:=mk T.objs.length) st inv ho hf hri hR (λj hj=>by cases hj) (λk=>⟨λh=>by
        by_cases hik:i=k
        ·exact .inl (.inl hik.symm)
        ·exact .inr (bt hik h),λh=>by
        rcases h with (h | h) | h
        ·subst h;exact kE (by rw [inv.vs];exact hlt)
        ·cases h
        ·exact cn h⟩) (by simpa using inv.vs) (inv.cv.set hri) h3 h4.live (h4.or g w b h6) (λd' u hd' hu g' hg'=>by
        rw [h2] at hd';injection hd' with hd';subst hd'
        rw [h7 u hu]
        exact h4.vr g' w _ b hg' (inv.pr i b h3).2.2.2.2.2 h6)
      exact ih _ T0 pend _ _ R g' w a prot' hp h inv' (hG.mono e) hds (hes.trans e) (hfx.trans hes EC) hro hfu
     ·refine wait hbx (Array.getElem?_eq_some_iff.1 ho).1 hR λj hj hVj hFj n hlt hoff=> ?_
      exact absurd (bS.1 (kZ hrd (zS inv hR hj hVj hFj))) hFj
   ·exact h.elim
  |box j=>
   simp only [cc,and_eq_true] at hp
   obtain ⟨⟨⟨⟨hfl,hri⟩,hdj⟩,hrd⟩,hp⟩:=hp
   have hri:=bS.1 hri
   obtain ⟨hun,o,ho,_⟩:=mem_ready.1 hri
   have hf:(i,some j)∈flo:=by
    obtain ⟨q,hq,h1⟩:=any_eq_true.1 hfl
    simp only [and_eq_true] at h1
    obtain ⟨q1,q2⟩:=q
    have h2:=eq_of_beq_eq_true h1.1
    simp only at h2
    subst h2
    cases q2 with
    |none=>cases h1.2
    |some j'=>
     have:=eq_of_beq_eq_true h1.2
     subst this;exact hq
   obtain ⟨o',ho',hlate,hbox⟩:=st.at hf
   rw [ho] at ho';injection ho' with ho';subst ho'
   obtain ⟨oj,hoj,hib,⟨e1,he1,hb1,hon1⟩,_⟩:=hbox j rfl
   simp only [cG,ho,hoj] at h
   split at h
   ·rename_i y T' hy
    cases hbx:dr P G ops flo V σ flo with
    |false=>rw [hbx] at h;exact h.elim
    |true=>
     rw [hbx] at h
     simp only [cond_true] at h
     have hnV:=fI hun
     have hlt:=(Array.getElem?_eq_some_iff.1 ho).1
     have hltj:=(Array.getElem?_eq_some_iff.1 hoj).1
     by_cases hR:On R i∧On R j
     ·obtain ⟨hR,hRj⟩:=hR
      obtain ⟨o',d,b,h1,h2,h3,oj',t,us,inf,h4,h5,h6,h7,h8,h9,h10⟩:=inv.flt i (some j) hf hR hnV
      rw [ho] at h1;injection h1 with h1;subst h1
      rw [hoj] at h4;injection h4 with h4;subst h4
      obtain ⟨new,k1,k2,k3⟩:=h10 hRj
      unfold If at hy
      rw [k1] at hy
      injection hy with hy;injection hy with hy1 hy2;subst hy1 hy2
      have hji:i<j:=by
       have:=(fj st.flow hoj).1 e1 he1 hb1
       omega
      obtain ⟨g',prot',inv',e⟩:=w6 (V':=(V.setIfInBounds i true).setIfInBounds j true) (y:=.ptr T.objs.length 0) (vo:=.cells new) st inv ho hf hri hR (λj' hj'=>by injection hj' with hj';subst hj';exact hRj) (λk=>⟨λh=>by
        by_cases hjk:j=k
        ·exact .inl (.inr (by rw [hjk]))
        ·have h:=bt hjk h
         by_cases hik:i=k
         ·exact .inl (.inl hik.symm)
         ·exact .inr (bt hik h),λh=>by
        rcases h with (h | h) | h
        ·subst h;exact cn (kE (by rw [inv.vs];exact hlt))
        ·injection h with h;subst h;exact kE (by simp [inv.vs];exact hltj)
        ·exact cn (cn h)⟩) (by simpa using inv.vs) (by
        have hc1:=inv.cv.set hri
        intro k ok hk hon e he hb
        by_cases hjk:j=k
        ·subst hjk
         rw [hoj] at hk;injection hk with hk;subst hk
         refine cn ?_
         unfold qg at hdj
         rw [hoj] at hdj
         have:=all_eq_true.1 hdj e (mem_toList_iff.2 he)
         rw [hb] at this
         simpa only [Bool.not_true,Bool.false_or] using this
        ·exact cn (hc1 k ok hk (bt hjk hon) e he hb)) h3 rfl ⟨us,t,h5,k2,k3⟩ (λd' u hd' hu g' hg'=>by
        rw [h2] at hd';injection hd' with hd';subst hd'
        rw [h6 u hu]
        exact .ptr hg')
      exact ih _ T0 pend _ _ R g' w a prot' hp h inv' (hG.mono e) hds (hes.trans e) (hfx.trans hes EC) hro hfu
     ·have hn:∃i0,i0<ops.size∧¬On R i0:=by
       by_cases h1:On R i
       ·exact ⟨j,hltj,λh2=>hR ⟨h1,h2⟩⟩
       ·exact ⟨i,hlt,h1⟩
      obtain ⟨i0,hi0,hn0⟩:=hn
      have hnj:¬On R j:=λh=>by
       have hRi:=inv.cr j oj hoj h e1 he1 hb1
       rw [hon1] at hRi
       exact hR ⟨hRi,h⟩
      refine wait hbx hi0 hn0 λj' hj hVj hFj n hlt hoff=> ?_
      exact absurd (bS.1 (kZ hrd (zS inv hnj hj hVj hFj))) hFj
   ·exact h.elim
theorem Is {α:Type}{b:Bool}{x y:α}(h:cond b (some x) none=some y):b=true∧x=y:=by
 cases b with
 |false=>cases h
 |true=>injection h with h;exact ⟨rfl,h⟩
theorem VInv.start (hσ:VRs g w σ a.tmps.toList)(hr:RW g T w):VInv P G ops flo σ T T (replicate ops.size false) (replicate ops.size false) [] g w a.tmps.toList λ_=>none:=by
 have hoff:∀k,¬On (replicate ops.size false) k:=λk h=>by
  unfold On at h
  rw [getD_eq_getD_getElem?,Array.getElem?_replicate] at h
  split at h<;>simp at h
 refine ⟨by simp,by simp,λk o _ hk=>absurd hk (hoff k),λk o _ hk=>absurd hk (hoff k),λk hk=>absurd hk (hoff k),λk _ hk=>absurd hk (hoff k),λi j _=>⟨λh=>absurd h (hoff i),λh=>absurd h (hoff j)⟩,⟨hσ.1,λs x u hs hu _=>hσ.2 s x u hs hu⟩,λk o _ hk=>absurd hk (hoff k),λi jo _ hk=>absurd hk (hoff i),λk b hk=>(by cases hk),λi j b h=>(by cases h),?_,take_length⟩
 refine hr.lessFr rfl rfl rfl λb hb=> ?_
 rcases hb with hb | ⟨k,hk⟩
 ·exact hb
 ·cases hk
theorem vg {p:List (Nat × FK)}(h:lI P ops=some p):noSelect ops=true∧VStat P ops (yN P ops)∧cc P ops (yN P ops) (cg (yN P ops)) p (replicate ops.size false) []=true:=by
 unfold lI sJ EA at h
 obtain ⟨hb,h⟩:=Is h
 simp only [and_eq_true] at hb
 subst h
 obtain ⟨⟨⟨⟨⟨⟨h1,h2⟩,h3⟩,h4⟩,h5⟩,h6⟩,h7⟩:=hb
 exact ⟨h1,⟨h2,K2 h2 h3,h4,h6⟩,fJ h2 (zT h5) _ _ _ _ (MaskOk.zero _) h7⟩
end
section
variable {P:Program}{F:Fence}{n:Nat}{ops:Array Oper}
def B9 (ops:Array Oper)(t:Oper):Prop:=(∀e∈t.after,binds .any e=true→e.on<ops.size)∧∀listed:Array Bool,Closed ops listed→(∀e∈t.after,binds .any e=true→listed.getD e.on false=true)→∀j,j<ops.size→listed.getD j false=true
theorem rf {t:Oper}(h:mj ops t=true):t.guard.isNone=true:=by
 simp only [mj,and_eq_true] at h
 exact h.1.1
theorem sP {t:Oper}(h:mj ops t=true):B9 ops t:=by
 simp only [mj,and_eq_true] at h
 obtain ⟨⟨_,h1⟩,h2⟩:=h
 refine ⟨λe he hb=> ?_,λlisted hc hd j hj=> ?_⟩
 ·have:=all_eq_true.1 h1 e (mem_toList_iff.2 he)
  rw [hb] at this
  simpa [Nat.blt_eq] using this
 ·obtain ⟨e,he,h3⟩:=any_eq_true.1 (all_eq_true.1 h2 j (mem_range.2 hj))
  simp only [and_eq_true,or_eq_true] at h3
  obtain ⟨hb,h3⟩:=h3
  have hon:=hd e (mem_toList_iff.1 he) hb
  rcases h3 with h3 | h3
  ·rw [←eq_of_beq_eq_true h3];exact hon
  ·exact kV hc ops.size e.on j h3 λo' ho' e' he' hb'=>hc e.on o' ho' hon e' he' hb'
theorem Closed.start (ops:Array Oper)(n:Nat):Closed ops (replicate n false):=λk o _ hk=>absurd hk (by
 rw [getD_eq_getD_getElem?,Array.getElem?_replicate]
 split<;>simp)
theorem vh {t:Oper}(hf:dT ops=true)(ht:B9 ops t){listed:Array Bool}(hsz:listed.size=ops.size)(hcl:Closed ops listed){i:Nat}(hi:i∈ready .any (ops.push t) (listed.push false)):
  (i<ops.size∧i∈ready .any ops listed)∨(i=ops.size∧∀j,j<ops.size→listed.getD j false=true):=by
 obtain ⟨hun,o,ho,hed⟩:=mem_ready.1 hi
 have hi':i<(ops.push t).size:=(Array.getElem?_eq_some_iff.1 ho).1
 rw [size_push] at hi'
 rw [getElem?_push] at ho
 by_cases h:i=ops.size
 ·right
  refine ⟨h,λj hj=> ?_⟩
  rw [if_pos h] at ho
  obtain rfl:t=o:=Option.some.inj ho
  refine ht.2 listed hcl (λe he hb=> ?_) j hj
  have h2:=hed e he hb
  have h3:=ht.1 e he hb
  rwa [fC _ _ (by omega)] at h2
 ·left
  rw [if_neg h] at ho
  have hlt':i<ops.size:=by omega
  refine ⟨hlt',mem_ready.2 ⟨by rw [fC _ _ (by omega)] at hun;exact hun,o,ho,λe he hb=> ?_⟩⟩
  have h1:=(fj hf ho).1 e he hb
  have h2:=hed e he hb
  rwa [fC _ _ (by omega)] at h2
theorem It {o:Oper}{a:Act}{w:World}{K:Act→World→Prop}{Q1 Q2:Act→World→Prop}(hh:o.wpIn F n P a w K (dX Q1)):o.wpIn F n P a w K (dX Q2):=by
 unfold Oper.wpIn at*
 refine ⟨hh.1,?_⟩
 have hh:=hh.2
 generalize (o.semAt F.round a.eval).run P w=r at*
 have hl:∀{Q:Act→World→Prop},LetsOut (dX Q)→False:=λh=>by
  obtain ⟨a₀,w₀,h₀⟩:=h;exact h₀
 cases r with
 |ok x w'=>
  cases x<;>simp only [uponIn] at hh ⊢<;>
   first
    |exact hh
    |exact ⟨hh.1,CallsIn.mono hh.2 (λe w'' he=>by cases e<;>first | exact he | exact (hl he).elim)⟩
    |exact ⟨hh.1,RoundIn.mono hh.2 (λe w'' he=>by cases e<;>first | exact he | exact (hl he).elim)⟩
 |halt x w'=>cases x<;>simp only [uponIn] at hh ⊢<;>exact hh.elim
theorem rg {t:Oper}(hf:dT ops=true)(ht:B9 ops t){Q:Act→World→Prop}:
    ∀(fuel:Nat) (listed:Array Bool) (a:Act) (w:World),listed.size=ops.size→Closed ops listed→
      wpAnyIn F n P .any ops (dX λa w=>wpOpIn F n P (ops.push t) (dX Q) ops.size Q a w) fuel listed a w→
      wpAnyIn F n P .any (ops.push t) (dX Q) (fuel+1) (listed.push false) a w:=by
  have hdone:∀(listed:Array Bool),listed.size=ops.size→(∀j,j<ops.size→listed.getD j false=true)→
      ready .any (ops.push t) ((listed.push false).setIfInBounds ops.size true)= []:=by
    intro listed hsz hall
    apply List.eq_nil_iff_forall_not_mem.2
    intro i hi
    obtain ⟨hun,o,ho,_⟩:=mem_ready.1 hi
    have hi':i<(ops.push t).size:=(Array.getElem?_eq_some_iff.1 ho).1
    rw [size_push] at hi'
    have:((listed.push false).setIfInBounds ops.size true).getD i true=true:=by
      by_cases h:i=ops.size
      · subst h
        simp
      · rw [getD_set_ne true (Ne.symm h),fC _ _ (by omega)]
        have h3:=hall i (by omega)
        have hb:i<listed.size:=by omega
        simp [hb] at h3 ⊢;exact h3
    rw [this] at hun
    cases hun
  have hlast:∀(fuel:Nat) (listed:Array Bool) (a:Act) (w:World),listed.size=ops.size→(∀j,j<ops.size→listed.getD j false=true)→
      wpOpIn F n P (ops.push t) (dX Q) ops.size Q a w→wpOpIn F n P (ops.push t) (dX Q) ops.size (wpAnyIn F n P .any (ops.push t) (dX Q) fuel ((listed.push false).setIfInBounds ops.size true)) a w:=by
    intro fuel listed a w hsz hall h
    refine wpOpIn_mono (λa' w' hq=> ?_) h
    cases fuel with
    |zero=>exact ⟨hdone listed hsz hall,hq⟩
    |succ k=>exact ⟨λ_=>hq,λi hi=>by rw [hdone listed hsz hall] at hi;cases hi⟩
  have hnot:∀(listed:Array Bool),listed.size=ops.size→(∀j,j<ops.size→listed.getD j false=true)→ops.size∈ready .any (ops.push t) (listed.push false):=by
    intro listed hsz hall
    refine mem_ready.2 ⟨?_,t,by simp,λe he hb=> ?_⟩
    · simp [←hsz]
    · have h1:=ht.1 e he hb
      rw [fC _ _ (by omega)]
      exact hall e.on h1
  intro fuel
  induction fuel with
  |zero=>
    intro listed a w hsz hcl h
    have hall:=qM hf hsz h.1
    refine ⟨λh0=> ?_,λi hi=> ?_⟩
    · have:=hnot listed hsz hall
      rw [h0] at this;cases this
    · rcases vh hf ht hsz hcl hi with ⟨h1,h2⟩ | ⟨rfl,h2⟩
      · rw [h.1] at h2;cases h2
      · exact hlast 0 listed a w hsz hall h.2
  |succ fuel ih=>
    intro listed a w hsz hcl h
    refine ⟨λh0=> ?_,λi hi=> ?_⟩
    · have hr:ready .any ops listed= []:=by
        apply List.eq_nil_iff_forall_not_mem.2
        intro i hi
        have hi2:i∈ready .any (ops.push t) (listed.push false):=by
          obtain ⟨hun,o,ho,hed⟩:=mem_ready.1 hi
          have hlt:i<ops.size:=(Array.getElem?_eq_some_iff.1 ho).1
          refine mem_ready.2 ⟨by rw [fC _ _ (by omega)];exact hun,o,by rw [getElem?_push,if_neg (by omega)];exact ho,λe he hb=> ?_⟩
          have:=(fj hf ho).1 e he hb
          rw [fC _ _ (by omega)]
          exact hed e he hb
        rw [h0] at hi2;cases hi2
      have:=hnot listed hsz (qM hf hsz hr)
      rw [h0] at this;cases this
    · rcases vh hf ht hsz hcl hi with ⟨h1,h2⟩ | ⟨rfl,h2⟩
      · have h3:=h.2 i h2
        obtain ⟨_,o,ho,_⟩:=mem_ready.1 h2
        rw [Kw (by omega)]
        unfold wpOpIn at h3 ⊢
        rw [getElem?_push,if_neg (by omega)]
        simp only [ho] at h3 ⊢
        rw [DZ hf t ho]
        split at h3
        · rename_i hw
          rw [if_pos hw]
          exact It (Oper.wpIn_mono (λa' w' hq=>ih (listed.setIfInBounds i true) a' w' (by simpa using hsz) (hcl.set h2) hq) h3)
        · rename_i hw
          rw [if_neg hw]
          exact ⟨h3.1,ih (listed.setIfInBounds i true) _ w (by simpa using hsz) (hcl.set h2) h3.2⟩
      · have hr:ready .any ops listed= []:=by
          apply List.eq_nil_iff_forall_not_mem.2
          intro j hj
          obtain ⟨hun,o,ho,_⟩:=mem_ready.1 hj
          have hlt:j<ops.size:=(Array.getElem?_eq_some_iff.1 ho).1
          have h3:=h2 j hlt
          have hb:j<listed.size:=by omega
          simp [hb] at h3 hun
          rw [h3] at hun;cases hun
        exact hlast _ listed a w hsz h2 (h.1 hr)
theorem jB (n:Nat):replicate (n+1) false=(replicate n false).push false:=Array.replicate_succ
end
section
variable {P:Program}{G:aP}{F:gD}{ops:Array Oper}{r:Option Nat}{σ:List TV}{T T0:VT}{V R:Array Bool}{pend:List Nat}{g:Gh}{w:World}{a:Act}{prot:Nat→Option Nat}
theorem ED:∀{l:List Nat} {p:Nat→Prop},KW l p→∀{i},i∈l→p i
 |j::l,p,h,i,hi=>by
  rcases mem_cons.1 hi with rfl | hi
  ·exact h.1
  ·exact ED h.2 hi
theorem vi:∀{l:List Nat} {i:Nat},nF P ops l=some i→i∈l
 |j::l,i,h=>by
  unfold nF at h
  have key:∀b,cond b (some j) (nF P ops l)=some i→i∈j::l:=λb h=>by
   cases b with
   |true=>injection h with h;subst h;exact mem_cons_self
   |false=>exact mem_cons_of_mem _ (vi h)
  exact key _ h
theorem Gn {i:Nat}:∀k∈pend,k∈iX P ops i pend:=λk hk=>by
 unfold iX
 split
 ·rename_i o _
  cases isRead P o.op
  ·exact hk
  ·exact mem_cons_of_mem _ hk
 ·exact hk
theorem vj {i:Nat}{o:Oper}(ho:ops[i]?=some o)(h:isRead P o.op=true):i∈iX P ops i pend:=by
 unfold iX
 simp only [ho,h,cond_true]
 exact mem_cons_self
theorem N1 {call:gE}{rnd:iY}(hc:fH P G call)(hrr:gF P G rnd)(st:VStat P ops [])(hnd:∀(j:Nat) o,ops[j]?=some o→ci o.op=true){ro:Nat}{K:List TV→VT→Prop}{gs:Gh}{Ts:VT}{ws:World}{ds:List Deferred}{QQ:Act→World→Prop}
  (hq:∀σ' T' g' w' (a':Act),K σ' T'→Evo gs ws g' w'→RW g' T' w'→VRs g' w' σ' a'.tmps.toList→a'.defers=ds→Fix ro gs Ts ws T' w'→QQ a' w'):
  ∀(fuel n:Nat) (V:Array Bool) (T0:VT) (pend:List Nat) (σ:List TV) (T:VT) (R:Array Bool) (g:Gh) (w:World) (a:Act) (prot:Nat→Option Nat),
   kb P G F call rnd ro ops n V T0 pend σ T K→VInv P G ops [] σ T T0 V R pend g w a.tmps.toList prot→GOk G g w→a.defers=ds→Evo gs ws g w→Fix ro gs Ts ws T w→ro≤T0.objs.length→kX R≤fuel→
   wpAnyIn (ct r) 0 P .any ops (dX QQ) fuel R a w:=by
 intro fuel
 induction fuel using Nat.strongRecOn with
 |_ fuel ihf=>
 have done:∀(n:Nat) (V:Array Bool) (T0:VT) (pend:List Nat) (σ:List TV) (T:VT) (R:Array Bool) (g:Gh) (w:World) (a:Act) (prot:Nat→Option Nat),ready .any ops V= []→K σ T→kb P G F call rnd ro ops n V T0 pend σ T K→
   VInv P G ops [] σ T T0 V R pend g w a.tmps.toList prot→GOk G g w→a.defers=ds→Evo gs ws g w→Fix ro gs Ts ws T w→ro≤T0.objs.length→kX R≤fuel→wpAnyIn (ct r) 0 P .any ops (dX QQ) fuel R a w:=by
  intro n V T0 pend σ T R g w a prot hp hk h inv hG hds hes hfx hro hfu
  have hallV:∀i,i<ops.size→On V i:=oa st.flow inv.vs hp
  by_cases hall:∀i,i<ops.size→On R i
  ·refine w9 (sO hall) (hq σ T g w a hk hes inv.base ⟨inv.rel.1,λs x u hs hu=>inv.rel.2 s x u hs hu λk o hk _=> ?_⟩ hds hfx) _
   have hlt:=(Array.getElem?_eq_some_iff.1 hk).1
   exact ⟨hallV k hlt,hall k hlt⟩
  ·obtain ⟨i,hi⟩:=not_forall.1 hall
   obtain ⟨hi,hn⟩:=Classical.not_imp.1 hi
   refine nj st.flow inv.rs hi hn hfu λm hlt j hj hoff=> ?_
   obtain ⟨_,o,ho,_⟩:=mem_ready.1 hj
   exact pd st inv hG hj (hallV j (Array.getElem?_eq_some_iff.1 ho).1) λg' w' a' inv' e fx hd=>ihf m hlt n V T0 pend σ T _ g' w' a' prot h inv' (hG.mono e) (hd.trans hds) (hes.trans e) (hfx.trans hes (fx ro)) hro hoff
 intro n
 induction n with
 |zero=>
  intro V T0 pend σ T R g w a prot h inv hG hds hes hfx hro hfu
  have h0:=h
  unfold kb at h
  split at h
  ·rename_i hp
   exact done 0 V T0 pend σ T R g w a prot hp h h0 inv hG hds hes hfx hro hfu
  ·exact h.elim
 |succ n ih=>
  intro V T0 pend σ T R g w a prot h inv hG hds hes hfx hro hfu
  have h0:=h
  unfold kb at h
  split at h
  ·rename_i hp
   exact done (n+1) V T0 pend σ T R g w a prot hp h h0 inv hG hds hes hfx hro hfu
  ·rename_i i0 r0 hp
   have hnF:∀k,k∉cg ([]:List (Nat × Option Nat)):=λk h=>by cases h
   split at h
   ·--its own:reckoned at once
    rename_i i hi
    have hri:i∈ready .any ops V:=by rw [hp];exact vi hi
    obtain ⟨_,o,ho,_⟩:=mem_ready.1 hri
    simp only [ho] at h
    replace h:=eD h
    have go:∀{y},((bP ops (only ops o σ) o=some false∧y=.val undef)∨(bP ops (only ops o σ) o=some true∧(kW P G ⟨[],[]⟩ o (only ops o σ) y∨(i∈iX P ops i pend∧aW P o.op (bb G (only ops o σ))=none∧aY P T0 o.op (bb G (only ops o σ))=some y))))→
      kb P G F call rnd ro ops n (V.setIfInBounds i true) T0 (iX P ops i pend) (bv σ o.dst y) T K→wpAnyIn (ct r) 0 P .any ops (dX QQ) fuel R a w:=λhow h=>
     ih _ T0 _ _ T R g w a prot h (B5 st inv ho hri (hnF i) (hnd i o ho) Gn how) hG hds hes hfx hro hfu
    split at h
    ·rename_i b hb
     cases b with
     |true=>
      simp only [cond_true] at h
      split at h
      ·rename_i y hy
       obtain ⟨hpu,h⟩:=h
       rcases zN hpu with h1 | ⟨h1,h2,h3⟩
       ·exact go (.inr ⟨hb,.inl h1⟩) h
       ·exact go (.inr ⟨hb,.inr ⟨vj ho h1,h2,h3⟩⟩) h
      ·exact h.elim
      ·split at h
       ·rename_i y hy
        rcases zO hy with h1 | ⟨h1,h2,h3⟩
        ·exact go (.inr ⟨hb,.inl h1⟩) h
        ·exact go (.inr ⟨hb,.inr ⟨vj ho h1,h2,h3⟩⟩) h
       ·exact h.elim
     |false=>
      simp only [cond_false] at h
      exact go (.inl ⟨hb,rfl⟩) h
    ·exact h.elim
   ·--one of some
    have hr0:i0∈ready .any ops V:=by rw [hp];exact mem_cons_self
    obtain ⟨hun0,o0,ho0,_⟩:=mem_ready.1 hr0
    have hnR0:¬On R i0:=λhR=>hnF i0 (inv.rv i0 hR (fI hun0))
    refine nj st.flow inv.rs (Array.getElem?_eq_some_iff.1 ho0).1 hnR0 hfu λm hlt i hi hoff=> ?_
    by_cases hVi:On V i
    ·exact pd st inv hG hi hVi λg' w' a' inv' e fx hd=>ihf m hlt (n+1) V T0 pend σ T _ g' w' a' prot h0 inv' (hG.mono e) (hd.trans hds) (hes.trans e) (hfx.trans hes (fx ro)) hro hoff
    ·have hri:i∈ready .any ops V:=re inv hi hVi (hnF i)
     replace h:=ED h (by rw [hp] at hri;exact hri)
     obtain ⟨_,o,ho,_⟩:=mem_ready.1 hri
     simp only [ho] at h
     replace h:=eD h
     have hle:T0.objs.length≤T.objs.length:=by
      have:=congrArg length inv.t0
      rw [length_take] at this;omega
     split at h
     ·rename_i b hb
      cases hpw:ML ops i pend with
      |true=>
       rw [hpw] at h
       simp only [cond_true] at h
       obtain ⟨_,oj,hoj,hdep⟩:=mem_ready.1 hi
       have hpe:∀k∈pend,On R k:=λk hk=>kV inv.cr ops.size i k (all_eq_true.1 hpw k hk) λo' ho' e he hbb=>by
        rw [hoj] at ho';injection ho' with ho';subst ho';exact hdep e he hbb
       exact mw st inv hG ho hi hri (hnF i) hb (X:=λσ' T'=>kb P G F call rnd ro ops n (V.setIfInBounds i true) T' [] σ' T' K) (λhbt=>ix hc hrr (by rw [hbt] at h;exact h)) (λhbf=>by rw [hbf] at h;exact h) (pend':= []) (λT'=>T') (λσ' T' w' g' _ fx e=>by simp) (λ_ _ k ok y _ h1 _ h2 _ _ _=>absurd (hpe k h1) h2) λσ' T' g' w' a' hX inv' e fx hd=>ihf m hlt n _ T' [] σ' T' _ g' w' a' prot hX inv' (hG.mono e) (hd.trans hds) (hes.trans e) (hfx.trans hes fx) (le_trans (le_trans hro hle) fx.len) hoff
      |false=>
       rw [hpw] at h
       simp only [cond_false] at h
       have ht0T:T.takeO T0.objs.length=⟨T0.objs,T.tails⟩:=by unfold VT.takeO;rw [inv.t0]
       refine mw st inv hG ho hi hri (hnF i) hb (ro:=ro) (X:=λσ' T'=>(∀k ok y,k∈pend→ops[k]?=some ok→bP ops (only ops ok σ) ok=some true→aW P ok.op (bb G (only ops ok σ))=none→aY P T0 ok.op (bb G (only ops ok σ))=some y→aY P (T'.takeO T0.objs.length) ok.op (bb G (only ops ok σ))=some y)∧kb P G F call rnd ro ops n (V.setIfInBounds i true) (T'.takeO T0.objs.length) pend σ' T' K)
        (λhbt=> ?_) (λhbf=> ?_) (pend':=pend) (λT'=>T'.takeO T0.objs.length) (λσ' T' w' g' hX fx e=> ?_) (λσ' T' k ok y hX h1 h2 _ h3 h4 h5=>⟨h1,hX.1 k ok y h1 h2 h3 h4 h5⟩) λσ' T' g' w' a' hX inv' e fx hd=>ihf m hlt n _ _ pend σ' T' _ g' w' a' prot hX.2 inv' (hG.mono e) (hd.trans hds) (hes.trans e) (hfx.trans hes fx) (by
         have:=fx.len
         simp only [VT.takeO,length_take];omega) hoff
       ·rw [hbt] at h
        simp only [cond_true] at h
        exact VPi.mono (ix hc hrr h) λs T' hk=>⟨λk ok y hk1 hok hwk hpu hrd=>ve hk.1 hk1 hok hwk hpu hrd,hk.2⟩
       ·rw [hbf] at h
        simp only [cond_false] at h
        exact ⟨λk ok y _ _ _ _ hrd=>jT (T0:=T0) (T:=T.takeO T0.objs.length) (by rw [ht0T];simp) hrd,h⟩
       ·simp only [VT.takeO,length_take]
        rw [List.take_eq_take_iff]
        omega
     ·exact h.elim
end
end Go.Proofs.YtaijldpbpimdlaaGreatDoor