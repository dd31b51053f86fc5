/-Part 2 of the proof of viewPiecesCard_holds:Vr,Vn,Vo ... No condition. -/
import Derived.Laws.MakeOwn
import Derived.Laws.BytesString
import Derived.Laws.BytesArg
import Derived.Lib.AppendZerosOnto
import Derived.RangeFuncLeaves
import Derived.RangeFuncRecord
import Derived.RangeFuncCalls
import Derived.OrdersIn
import Derived.Test.YtaijldpbpimdlaaGreatDoorVz1
set_option maxRecDepth 100000
namespace Go.Proofs.YtaijldpbpimdlaaGreatDoor
open Go.RowKit
open Go.Act (put_comm)
open _root_.Array (ext' getElem?_modify getElem?_toList getElem_map getElem_mem getElem_of_mem getElem_range length_toList mem_toList_iff toArray_toList)
open _root_.Bool (and_eq_true)
open Go.Builtin (append_ cap_ clear_ copy_ delete_ firstCells len_ zeroCells)
open Go.Calls (mono)
open Go.Extern (allGenericRows allRows allTypedRows find findNext)
open Go.Fence (wide)
open Go.Instr (arrayAt findAsking findKey findNow indexAt keyThatStays sameBits sameNow sliceAt storeAt sureAddr yield)
open Go.IntKind (i64)
open _root_.List (all_eq_true append_assoc ext_getElem? getElem?_append getElem?_drop getElem?_eq_getElem getElem?_map getElem?_set getElem?_take length length_map map_cons map_set mem_append mem_cons mem_map mem_map_of_mem mem_of_getElem? mem_of_mem_drop mem_of_mem_take nil_append size_toArray take_left' zipIdx_cons)
open _root_.Nat (add_mul add_zero beq ble eq_of_beq_eq_true le_of_ble_eq_true le_refl lt_or_ge min_eq_left mod_lt mul_one ne_of_beq_eq_false sub_zero zero_add zero_mul)
open Go.Op (equalIn)
open Go.Oper (semAt_eq uponIn wp)
open _root_.Option (isSome_iff_exists map_eq_some_iff map_none map_some)
open Go.Question (forced)
open Go.Region (binds free ready wanted)
open Go.Result (andThen andThen_ok)
open Go.Sem (run_bind run_pure)
open Go.Value (oneCell')
open Go.World (cell?)
section
variable {P:Program}{g:Gh}{T:VT}{w:World}
def bL (T:VT)(size:Nat):TV→Option (List (List TV))
 | .vec sz es _=>bif beq sz size then some es else none
 | .val (.slice none 0 _)=>some []
 | .val (.string s)=>bif beq size 1 then some (s.data.toList.map λb=> [.val (.int .u8 b.toNat)]) else none
 | .row sz id off n=>match T.objs[id]? with
  |some (.row cs)=>bif beq sz size&&ble ((off+n)*size) cs.length then some (dh size n ((cs.drop (off*size)).take (n*size))) else none
  |_=>none
 | .sl id off n _=>match T.objs[id]? with
  |some (.cells cs)=>bif ble (off+n*size) cs.length then some (dh size n ((cs.drop off).take (n*size))) else none
  |some (.row cs)=>bif ble (off+n*size) cs.length then some (dh size n ((cs.drop off).take (n*size))) else none
  |_=>none
 |_=>none
theorem BC {size:Nat}{tx:TypeId}{b o n c:Nat}{us:List Value}(hk:(∃e',P.underlying tx=some (.slice e'))∨P.underlying tx=some .string)(hl:us.length=n*size)(h1:∀u∈us,u.oneCell'=true)
  (hc:∀(j:Nat) v,us[j]?=some v→w.cell? ⟨b,o+j,none⟩=some v):Src P size tx (.slice (some ⟨b,o,none⟩) n c) n us w:=by
 have hc:∀w':World,(∀a,w'.cell? a=w.cell? a)→(firstCells size n (.slice (some ⟨b,o,none⟩) n c)).run P w'=.ok us.toArray w':=λw' hw=>by
  have:=run_loadCells_list (P:=P) w' ⟨b,o,none⟩ us (λj v hv=>by rw [Addr.add_none,hw];exact hc j v hv)
  rw [hl] at this
  simpa [firstCells] using this
 exact ⟨hk,λ_=>rfl,hc w (λ_=>rfl),hc w.drew (λ_=>rfl),hl,h1⟩
theorem f9 {size n:Nat}{cs:List TV}(h:cs.length=n*size):(dh size n cs).length=n∧(∀e∈dh size n cs,e.length=size)∧(dh size n cs).flatten=cs:=
 ⟨ng size n cs,(oS size n cs h).1,(oS size n cs h).2⟩
theorem nT (r:RW g T w){size:Nat}{tx:TypeId}{x:TV}{u:Value}{es:List (List TV)}(h:bL T size x=some es)(hx:VR g w x u)(hk:(∃e',P.underlying tx=some (.slice e'))∨P.underlying tx=some .string):
  ∃news,Src P size tx u es.length news w∧VRs g w es.flatten news∧∀e∈es,e.length=size:=by
 cases x<;>simp only [bL] at h<;>try (cases h)
 case val v=>
  have e1:bL T size (.val v)=jr size (.val v):=by
   cases v with
   |slice a n c=>cases a<;>cases n<;>rfl
   |string s=>simp only [bL,jr];cases hb:beq size 1 with
    |true=>simp [eq_of_beq_eq_true hb]
    |false=>simp [ne_of_beq_eq_false hb]
   |_=>rfl
  exact vL (by rw [←e1];exact h) hx hk
 case vec sz es' tok=>
  cases hb:beq sz size with
  |false=>rw [hb] at h;cases h
  |true=>
   rw [hb] at h;injection h with h;subst h
   exact vL (by simp [jr,eq_of_beq_eq_true hb]) hx hk
 case row sz id off n=>
  split at h
  ·rename_i cs hid
   cases hb:(beq sz size&&ble ((off+n)*size) cs.length) with
   |false=>rw [hb] at h;cases h
   |true=>
    rw [hb] at h;injection h with h;subst h
    simp only [and_eq_true] at hb
    have hsz:=eq_of_beq_eq_true hb.1
    have hle:=le_of_ble_eq_true hb.2
    subst hsz
    obtain ⟨b,c,h1,h2,h3,h4,h5,rfl⟩:=hx.row_inv
    obtain ⟨b',q1,⟨us,t,q2,q3,q4,q5⟩,_⟩:=r.obj id _ hid rfl
    rw [h1] at q1;injection q1 with q1;subst q1
    rw [add_mul] at hle
    have hl:((cs.drop (off*sz)).take (n*sz)).length=n*sz:=by simp;omega
    obtain ⟨k1,k2,k3⟩:=f9 hl
    have hv:=(q4.drop (off*sz)).take (n*sz)
    have hl2:(((us.take cs.length).drop (off*sz)).take (n*sz)).length=n*sz:=by simp;omega
    rw [k1,k3]
    refine ⟨_,BC hk hl2 (λu hu=>q5 u (mem_of_mem_drop (mem_of_mem_take hu))) (λj v hv=> ?_),hv,k2⟩
    rw [cell?,q2]
    simp only [getElem?_take,getElem?_drop] at hv
    split at hv
    ·split at hv
     ·simpa using hv
     ·cases hv
    ·cases hv
  ·cases h
 case sl id off n cap=>
  split at h
  ·rename_i cs hid
   cases hb:ble (off+n*size) cs.length with
   |false=>rw [hb] at h;cases h
   |true=>
    rw [hb] at h;injection h with h;subst h
    have hle:=le_of_ble_eq_true hb
    obtain ⟨b,h1,rfl⟩:=hx.sl_inv
    obtain ⟨b',q1,⟨us,t,q2,q4,q5⟩,_⟩:=r.obj id _ hid rfl
    rw [h1] at q1;injection q1 with q1;subst q1
    have hl:((cs.drop off).take (n*size)).length=n*size:=by simp;omega
    obtain ⟨k1,k2,k3⟩:=f9 hl
    have hv:=(q4.drop off).take (n*size)
    have hl2:((us.drop off).take (n*size)).length=n*size:=by rw [hv.1];exact hl
    rw [k1,k3]
    refine ⟨_,BC hk hl2 (λu hu=>q5 u (mem_of_mem_drop (mem_of_mem_take hu))) (λj v hv=> ?_),hv,k2⟩
    rw [cell?,q2]
    simp only [getElem?_take,getElem?_drop] at hv
    split at hv
    ·simpa using hv
    ·cases hv
  ·rename_i cs hid
   cases hb:ble (off+n*size) cs.length with
   |false=>rw [hb] at h;cases h
   |true=>
    rw [hb] at h;injection h with h;subst h
    have hle:=le_of_ble_eq_true hb
    obtain ⟨b,h1,rfl⟩:=hx.sl_inv
    obtain ⟨b',q1,⟨us,t,q2,q3,q4,q5⟩,_⟩:=r.obj id _ hid rfl
    rw [h1] at q1;injection q1 with q1;subst q1
    have hl:((cs.drop off).take (n*size)).length=n*size:=by simp;omega
    obtain ⟨k1,k2,k3⟩:=f9 hl
    have hv:=(q4.drop off).take (n*size)
    have hl2:(((us.take cs.length).drop off).take (n*size)).length=n*size:=by rw [hv.1];exact hl
    rw [k1,k3]
    refine ⟨_,BC hk hl2 (λu hu=>q5 u (mem_of_mem_drop (mem_of_mem_take hu))) (λj v hv=> ?_),hv,k2⟩
    rw [cell?,q2]
    simp only [getElem?_take,getElem?_drop] at hv
    split at hv
    ·split at hv
     ·simpa using hv
     ·cases hv
    ·cases hv
  ·cases h
def VT.kill (T:VT)(id:Nat):VT:={T with objs:=T.objs.set id .gone}
theorem RW.kill {g:Gh}{T:VT}{w:World}(r:RW g T w){id b:Nat}{o:VO}(hid:T.objs[id]?=some o)(hl:o.live=true)(hb:g.obj id=some b):RW g (T.kill id) w:=
 (r.setObj hid hl hb (o':=.gone) ⟨rfl,rfl,rfl⟩ rfl (λ_ _=>rfl) rfl (λh=>by cases h)).1
theorem qR {g:Gh}{T:VT}{w:World}(r:RW g T w){id b:Nat}{o:VO}(hid:T.objs[id]?=some o)(hl:o.live=true)(hb:g.obj id=some b):wF g (T.kill id) b where
 fr:=by obtain ⟨b',h1,_,h3,_⟩:=r.obj id o hid hl;rw [hb] at h1;injection h1 with h1;subst h1;exact h3
 st:=by obtain ⟨b',h1,_,_,h3⟩:=r.obj id o hid hl;rw [hb] at h1;injection h1 with h1;subst h1;exact h3
 obj:=λi oi h1 h2 h3=>by
  simp only [VT.kill,getElem?_set] at h1
  split at h1
  ·split at h1
   ·injection h1 with h1;subst h1;cases h2
   ·cases h1
  ·rename_i hne
   exact hne (r.inj id i o oi b hid hl h1 h2 hb h3)
 tl:=λk x hx h=>r.tobj id o b k x hid hl hb hx h
theorem vO (T:VT)(id:Nat):(T.kill id).objs.length=T.objs.length:=by simp [VT.kill]
def VT.newRow (T:VT)(cs:List TV):VT:={T with objs:=T.objs++ [.row cs]}
theorem FJ (T:VT)(cs:List TV):(T.newRow cs).objs.length=T.objs.length+1:=by simp [VT.newRow]
theorem lC (r:RW g T w){t tx ty e:TypeId}{i:TypeInfo}{z:Value}(ht:P.underlying t=some (.slice e))(hi:P.info? e=some i)(hz:i.zero=some z)(hzs:z.cells.size=i.size)
  {cs cs2:List TV} {a:Option Addr} {n n2 c:Nat} {us:List Value} {x:Value} {news:List Value} (hn:cs.length=n*i.size) (h5:VRs g w cs us) (h8:∀u∈us,u.oneCell'=true) (hz1:∀u∈z.cells.toList,u.oneCell'=true)
  (hold:(firstCells i.size n (.slice a n c)).run P w.drew=.ok us.toArray w.drew)
  (hs:Src P i.size tx x n2 news w) (k2:VRs g w cs2 news) (hroom:c<n+n2) (hb:(n+n2)*(i.bytes+1)≤140737488355328):
  ∃u g' w',(append_ #[t,tx] ty #[.slice a n c,x]).run P w=.ok u w'∧VR g' w' (.row i.size T.objs.length 0 (n+n2)) u∧Evo g w g' w'∧RW g' (T.newRow (cs++cs2)) w'∧Gr w w':=by
 rw [Nat.mul_add,mul_one] at hb
 have hrun:=run_append_grow_src (P:=P) w t tx ty e i z ht hi hz a n c us hold x n2 news hs hroom (by omega) (growslice_fits (bytes:=i.bytes) hroom (by omega))
 have hge:=grownCap_ge w (n+n2) c e
 have hle:=grownCap_le_maxLen w (n+n2) c e (by unfold maxLen;omega)
 generalize hcap:grownCap w (n+n2) c e=cap at hrun hge hle
 have hnl:=hs.newsLen
 have hul:us.length=n*i.size:=by rw [h5.1,hn]
 have hz0:∀u∈(zeroCells z.cells (cap-(n+n2))).toList,u.oneCell'=true:=by
  intro u hu
  rw [mem_toList_iff] at hu
  obtain ⟨j,hj,rfl⟩:=getElem_of_mem hu
  rw [size_zeroCells] at hj
  have hzp:0<z.cells.size:=by
   rcases Nat.eq_zero_or_pos z.cells.size with h0 | h0
   ·rw [h0,Nat.mul_zero] at hj;omega
   ·exact h0
  have:(zeroCells z.cells (cap-(n+n2)))[j]'(by rw [size_zeroCells];exact hj)=z.cells[j%z.cells.size]'(mod_lt _ hzp):=by
   simp only [zeroCells,getElem_map,getElem_range]
   exact getElem!_pos z.cells (j%z.cells.size) (mod_lt _ hzp)
  rw [this]
  exact hz1 _ (mem_toList_iff.2 (getElem_mem _))
 have hxs:((us++news).toArray++zeroCells z.cells (cap-(n+n2))).size=cap*i.size:=by
  simp only [Array.size_append,size_toArray,List.length_append,size_zeroCells,hul,hnl,hzs,Nat.sub_mul,add_mul]
  have:(n+n2)*i.size≤cap*i.size:=Nat.mul_le_mul_right _ hge
  rw [add_mul] at this
  omega
 have e0:((us++news).toArray++zeroCells z.cells (cap-(n+n2)))=(us++news++(zeroCells z.cells (cap-(n+n2))).toList).toArray:=by
  apply ext'
  simp
 rw [e0] at hrun hxs
 have hgr:Gr w (w.drew.alloc (.cells (us++news++(zeroCells z.cells (cap-(n+n2))).toList).toArray e)):=(Gr.refl w).drew.alloc _
 have hnew:(w.drew.alloc (.cells (us++news++(zeroCells z.cells (cap-(n+n2))).toList).toArray e)).heap[w.heap.size]?=some (.cells (us++news++(zeroCells z.cells (cap-(n+n2))).toList).toArray e):=heap_alloc_new w.drew _
 generalize w.drew.alloc (.cells (us++news++(zeroCells z.cells (cap-(n+n2))).toList).toArray e)=w' at*
 have e1:=Evo.of_gr r hgr
 have hl2:(cs++cs2).length=(us++news).length:=by simp [h5.1,k2.1]
 have ro:OR g w' w.heap.size (.row (cs++cs2)):=by
  refine ⟨_,e,hnew,?_,?_,?_⟩
  ·rw [hl2];simp
  ·rw [hl2,take_left']
   ·exact (h5.app k2).mono e1
   ·rfl
  ·intro u hu
   rw [hl2,take_left' rfl] at hu
   rcases mem_append.1 hu with hu | hu
   ·exact h8 u hu
   ·exact hs.one u hu
 have r1:=(r.gr hgr).addObj (r.fresh (le_refl _)) (o:=.row (cs++cs2)) rfl ro
 have e2:=e1.trans (Evo.addObj (w:=w') (b:=w.heap.size) (r.out T.objs.length (le_refl _)))
 have hlt:w.heap.size<w'.heap.size:=(Array.getElem?_eq_some_iff.1 hnew).1
 have hcz:bI w' w.heap.size=cap*i.size:=by rw [bG hnew];exact hxs
 refine ⟨_,_,_,hrun,?_,e2,r1,hgr⟩
 have:=VR.row (g:=g.addObj T.objs.length w.heap.size) (w:=w') (size:=i.size) (id:=T.objs.length) (off:=0) (n:=n+n2) (b:=w.heap.size) (c:=cap) (by simp [Gh.addObj]) hlt hge hle (by rw [hcz,zero_add])
 rw [zero_mul] at this
 exact this
theorem KB (r:RW g T w){t tx ty e:TypeId}{i:TypeInfo}(ht:P.underlying t=some (.slice e))(hi:P.info? e=some i){id n n2 b c:Nat}{cs cs2:List TV}{x:Value}{news:List Value}
  (hid:T.objs[id]?=some (.row cs)) (hb:g.obj id=some b) (hm:c≤maxLen) (hc:c*i.size=bI w b) (hn:n*i.size≤cs.length)
  (hs:Src P i.size tx x n2 news w) (k2:VRs g w cs2 news) (hroom:n+n2≤c):
  ∃u g' w',(append_ #[t,tx] ty #[.slice (some ⟨b,0,none⟩) n c,x]).run P w=.ok u w'∧VR g' w' (.row i.size T.objs.length 0 (n+n2)) u∧Evo g w g' w'∧RW g' ((T.kill id).newRow (cs.take (n*i.size)++cs2)) w'∧
   ∀c',c' ≠b→w'.heap[c']?=w.heap[c']?:=by
 obtain ⟨b',q1,⟨us,t0,q2,q3,q4,q5⟩,q6,q7⟩:=r.obj id _ hid rfl
 rw [hb] at q1;injection q1 with q1;subst q1
 have hnl:=hs.newsLen
 have hus:us.length=c*i.size:=by rw [hc,bG q2];simp
 have hmul:(n+n2)*i.size≤c*i.size:=Nat.mul_le_mul_right _ hroom
 rw [add_mul] at hmul
 have hst:=run_storeCells_at (P:=P) b (n*i.size) t0 news 0 us.toArray w q2 (by simp;omega) hs.one
 simp only [add_zero] at hst
 have hrun:(append_ #[t,tx] ty #[.slice (some ⟨b,0,none⟩) n c,x]).run P w=.ok (.slice (some ⟨b,0,none⟩) (n+n2) c) (w.setRow b (us.take (n*i.size)++news++us.drop (n*i.size+news.length)).toArray):=by
  rcases hs.kind with ⟨e',hk⟩ | hk<;>simp [append_,run_underlying ht,run_underlying hk,sizeOf,typeInfo,hi,hs.len,hroom,hs.cells,Addr.add_lit,hst]
 have hsr:=setRow_heap w b _ (us.take (n*i.size)++news++us.drop (n*i.size+news.length)).toArray t0 (0,0) q2
 have hl':(us.take (n*i.size)++news++us.drop (n*i.size+news.length)).length=us.length:=by simp;omega
 have hcs:bI (w.setRow b (us.take (n*i.size)++news++us.drop (n*i.size+news.length)).toArray) b=bI w b:=by
  rw [bG hsr,bG q2,size_toArray,size_toArray,hl']
 have hoth:∀c',c' ≠b→(w.setRow b (us.take (n*i.size)++news++us.drop (n*i.size+news.length)).toArray).heap[c']?=w.heap[c']?:=λc' h=>setRow_other w b c' _ h
 obtain ⟨r1,e1⟩:=r.setObj hid rfl hb (o':=.gone) (w':=w.setRow b (us.take (n*i.size)++news++us.drop (n*i.size+news.length)).toArray) ⟨rfl,rfl,rfl⟩ (by simp) hoth hcs (λh=>by cases h)
 have f:wF g (T.kill id) b:=qR r hid rfl hb
 have ro:OR g (w.setRow b (us.take (n*i.size)++news++us.drop (n*i.size+news.length)).toArray) b (.row (cs.take (n*i.size)++cs2)):=by
  have h1:(cs.take (n*i.size)++cs2).length=n*i.size+news.length:=by simp [k2.1];omega
  have h2:(us.take (n*i.size)++news++us.drop (n*i.size+news.length)).take (n*i.size+news.length)=us.take (n*i.size)++news:=by
   rw [take_left' (by simp;omega)]
  refine ⟨_,t0,hsr,?_,?_,?_⟩
  ·rw [h1,hl'];omega
  ·rw [h1]
   rw [h2]
   have h3:=(q4.take (n*i.size)).app k2
   rw [List.take_take,min_eq_left hn] at h3
   exact h3.mono e1
  ·intro u hu
   rw [h1,h2] at hu
   rcases mem_append.1 hu with hu | hu
   ·rw [←min_eq_left hn,←List.take_take] at hu
    exact q5 u (mem_of_mem_take hu)
   ·exact hs.one u hu
 have r2:=RW.addObj (T:=T.kill id) r1 f (o:=.row (cs.take (n*i.size)++cs2)) rfl ro
 rw [vO] at r2
 have e2:=e1.trans (Evo.addObj (w:=w.setRow b (us.take (n*i.size)++news++us.drop (n*i.size+news.length)).toArray) (b:=b) (r.out T.objs.length (le_refl _)))
 have hlt:b<w.heap.size:=(Array.getElem?_eq_some_iff.1 q2).1
 refine ⟨_,_,_,hrun,?_,e2,r2,hoth⟩
 have:=VR.row (g:=g.addObj T.objs.length b) (w:=w.setRow b (us.take (n*i.size)++news++us.drop (n*i.size+news.length)).toArray) (size:=i.size) (id:=T.objs.length) (off:=0) (n:=n+n2) (b:=b) (c:=c) (by simp [Gh.addObj]) (by simpa using hlt) hroom hm (by rw [hcs,zero_add];exact hc)
 rw [zero_mul] at this
 exact this
def ju (P:Program)(ro:Nat)(T:VT)(t tx:TypeId)(s x:TV):Option (TV × VT):=match P.underlying t with
 |some (.slice e)=>match P.info? e with
  |some i=>match i.zero,bL T i.size x with
   |some z,some es2=>match es2 with
    |[]=>(match s with
     | .val (.slice none 0 0)=>some (s,T)
     | .vec .. =>some (s,T)
     | .row .. =>some (s,T)
     |_=>none)
    |_::_=>bif decide (z.cells.size=i.size)&&z.cells.toList.all oneCell' &&fD (P.underlying tx) then (match s with
     | .val (.slice none 0 0)=>bif ble (es2.length*(i.bytes+1)) 140737488355328 then some (.row i.size T.objs.length 0 es2.length,T.newRow es2.flatten) else none
     | .vec sz es .full=>bif beq sz i.size&&ble ((es.length+es2.length)*(i.bytes+1)) 140737488355328 then some (.row i.size T.objs.length 0 (es.length+es2.length),T.newRow (es.flatten++es2.flatten)) else none
     | .row sz id off n=>(match T.objs[id]? with
      |some (.row cs)=>bif beq sz i.size&&beq off 0&&ble ro id&&ble (n*i.size) cs.length&&ble ((n+es2.length)*(i.bytes+1)) 140737488355328 then some (.row i.size T.objs.length 0 (n+es2.length),(T.kill id).newRow (cs.take (n*i.size)++es2.flatten)) else none
      |_=>none)
     |_=>none) else none
   |_,_=>none
  |none=>none
 |_=>none
theorem ga (T:VT)(cs:List TV):(T.newRow cs).objs.take T.objs.length=T.objs:=by simp [VT.newRow]
theorem KC (r:RW g T w){ro:Nat}{t tx ty:TypeId}{s x y:TV}{us ux:Value}{T':VT}(h:ju P ro T t tx s x=some (y,T'))(hs:VR g w s us)(hx:VR g w x ux)  (hk0:fD (P.underlying tx)=true):
  ∃u g' w',(append_ #[t,tx] ty #[us,ux]).run P w=.ok u w'∧VR g' w' y u∧Evo g w g' w'∧RW g' T' w'∧Fix ro g T w T' w':=by
 unfold ju at h
 split at h
 ·rename_i e ht
  split at h
  ·rename_i i hi
   split at h
   ·rename_i z es2 hz hr2
    obtain ⟨news,sr,k2,z2⟩:=nT (P:=P) r hr2 hx (pW hk0)
    have hfl2:=cf z2
    split at h
    ·have sr0:Src P i.size tx ux 0 news w:=sr
     have none_ok:∀{a n c},us=.slice a n c→n≤c→∃u g' w',(append_ #[t,tx] ty #[us,ux]).run P w=.ok u w'∧VR g' w' s u∧Evo g w g' w'∧RW g' T w'∧Fix ro g T w T w':=by
      intro a n c h1 h2
      have:=jQ (ty:=ty) ht hi sr0 (a:=a) h2
      rw [←h1] at this
      exact ⟨_,g,w,this,hs,Evo.refl _ _,r,Fix.refl _ _ _ _⟩
     split at h
     ·injection h with h;injection h with h1 h2;subst h1 h2
      exact none_ok hs.val_inv (le_refl _)
     ·injection h with h;injection h with h1 h2;subst h1 h2
      rcases hs.vec_inv with ⟨h1,_⟩ | ⟨b,o,c,us',h1,h2,_⟩ | ⟨a,h1,_⟩
      ·exact none_ok h1 (le_refl _)
      ·exact none_ok h1 h2
      ·exact none_ok h1 (le_refl _)
     ·injection h with h;injection h with h1 h2;subst h1 h2
      obtain ⟨b,c,_,_,h3,_,_,h1⟩:=hs.row_inv
      exact none_ok h1 h3
     ·cases h
    ·rename_i q0 qs
     cases hb:(decide (z.cells.size=i.size)&&z.cells.toList.all oneCell' &&fD (P.underlying tx)) with
     |false=>rw [hb] at h;cases h
     |true=>
      rw [hb] at h
      simp only [and_eq_true,decide_eq_true_eq] at hb
      obtain ⟨⟨hz1,hz2⟩,hk⟩:=hb
      simp only [cond_true] at h
      have hz3:∀u∈z.cells.toList,u.oneCell'=true:=all_eq_true.1 hz2
      split at h
      ·cases hb2:ble ((q0::qs).length*(i.bytes+1)) 140737488355328 with
       |false=>rw [hb2] at h;cases h
       |true=>
        rw [hb2] at h
        injection h with h;injection h with h1 h2;subst h1 h2
        rw [hs.val_inv]
        obtain ⟨u,g',w',e1,e2,e3,e4,e5⟩:=lC (ty:=ty) r ht hi hz hz1 (cs:= []) (a:=none) (n:=0) (c:=0) (us:= []) (by simp) (VRs.nil g w) (by simp) hz3 (run_firstCells_none w.drew i.size 0 0 0) sr k2 (by simp) (by simpa using le_of_ble_eq_true hb2)
        rw [zero_add] at e2
        exact ⟨u,g',w',e1,e2,e3,by simpa using e4,Fix.of_same (Same.of_gr r e5) (ga _ _)⟩
      ·rename_i sz es
       cases hb2:(beq sz i.size&&ble ((es.length+(q0::qs).length)*(i.bytes+1)) 140737488355328) with
       |false=>rw [hb2] at h;cases h
       |true=>
        rw [hb2] at h
        simp only [and_eq_true] at hb2
        have hsz:=eq_of_beq_eq_true hb2.1
        subst hsz
        injection h with h;injection h with h1 h2;subst h1 h2
        rcases hs.vec_inv with ⟨rfl,rfl,_⟩ | ⟨b,o,c,us',rfl,f1,f2,f3,f4,f5,f6,f7,f8⟩ | ⟨a,rfl,rfl,_⟩
        rotate_left 2
        ·obtain ⟨u,g',w',e1,e2,e3,e4,e5⟩:=lC (ty:=ty) r ht hi hz hz1 (cs:= []) (a:=some a) (n:=0) (c:=0) (us:= []) (by simp) (VRs.nil g w) (by simp) hz3 (by simp [firstCells,loadCells,loadCellsFrom]) sr k2 (by simp) (by simpa using le_of_ble_eq_true hb2.2)
         exact ⟨u,g',w',e1,e2,e3,by simpa using e4,Fix.of_same (Same.of_gr r e5) (ga _ _)⟩
        ·obtain ⟨u,g',w',e1,e2,e3,e4,e5⟩:=lC (ty:=ty) r ht hi hz hz1 (cs:= []) (a:=none) (n:=0) (c:=0) (us:= []) (by simp) (VRs.nil g w) (by simp) hz3 (run_firstCells_none w.drew i.size 0 0 0) sr k2 (by simp) (by simpa using le_of_ble_eq_true hb2.2)
         exact ⟨u,g',w',e1,e2,e3,by simpa using e4,Fix.of_same (Same.of_gr r e5) (ga _ _)⟩
        ·have hcf:c=es.length:=f4
         have hul:us'.length=es.length*i.size:=by rw [f5.1,cf f3]
         have hold:(firstCells i.size es.length (.slice (some ⟨b,o,none⟩) es.length c)).run P w.drew=.ok us'.toArray w.drew:=by
          have:=run_loadCells_list (P:=P) w.drew ⟨b,o,none⟩ us' (λj v hv=>by rw [Addr.add_none];exact f7 j v hv)
          rw [hul] at this
          simpa [firstCells] using this
         obtain ⟨u,g',w',e1,e2,e3,e4,e5⟩:=lC (ty:=ty) r ht hi hz hz1 (cs:=es.flatten) (a:=some ⟨b,o,none⟩) (n:=es.length) (c:=c) (us:=us') (cf f3) f5 f8 hz3 hold sr k2 (by simp;omega) (le_of_ble_eq_true hb2.2)
         exact ⟨u,g',w',e1,e2,e3,e4,Fix.of_same (Same.of_gr r e5) (ga _ _)⟩
      ·rename_i sz id off n
       split at h
       ·rename_i cs hid
        cases hb2:(beq sz i.size&&beq off 0&&ble ro id&&ble (n*i.size) cs.length&&ble ((n+(q0::qs).length)*(i.bytes+1)) 140737488355328) with
        |false=>rw [hb2] at h;cases h
        |true=>
         rw [hb2] at h
         simp only [and_eq_true] at hb2
         obtain ⟨⟨⟨⟨hsz,hoff⟩,hro⟩,hn⟩,hbig⟩:=hb2
         have hsz:=eq_of_beq_eq_true hsz
         have hoff:=eq_of_beq_eq_true hoff
         have hro:=le_of_ble_eq_true hro
         have hn:=le_of_ble_eq_true hn
         have hbig:=le_of_ble_eq_true hbig
         subst hsz hoff
         injection h with h;injection h with h1 h2;subst h1 h2
         obtain ⟨b,c,f1,f2,f3,f4,f5,rfl⟩:=hs.row_inv
         obtain ⟨b',q1,⟨us',t0,q2,q3,q4,q5⟩,_⟩:=r.obj id _ hid rfl
         rw [f1] at q1;injection q1 with q1;subst q1
         simp only [zero_add] at f5
         rw [zero_mul]
         have hlt:id<T.objs.length:=(List.getElem?_eq_some_iff.1 hid).1
         have fx:∀(w':World) (cs':List TV),(∀c',c' ≠b→c' <w.heap.size→w'.heap[c']?=w.heap[c']?)→Fix ro g T w ((T.kill id).newRow cs') w':=by
          intro w' cs' ho
          refine ⟨by rw [FJ,vO];omega,λj hj hl=> ?_,λj oj bj hj h1 h2 h3=> ?_⟩
          ·simp only [VT.newRow,VT.kill]
           rw [List.getElem?_append_left (by simpa using hl),getElem?_set,if_neg (by omega)]
          ·obtain ⟨b2,p1,p2,_⟩:=r.obj j oj h1 h2
           rw [h3] at p1;injection p1 with p1;subst p1
           refine ho bj (λhbb=> ?_) (p2.lt h2)
           have:=r.inj j id oj _ bj h1 h2 hid rfl h3 (hbb▸f1)
           omega
         rcases lt_or_ge c (n+(q0::qs).length) with hgr | hrm
         ·have hul:((us'.take cs.length).take (n*i.size)).length=n*i.size:=by simp;omega
          have hold:(firstCells i.size n (.slice (some ⟨b,0,none⟩) n c)).run P w.drew=.ok ((us'.take cs.length).take (n*i.size)).toArray w.drew:=by
           have:=run_loadCells_list (P:=P) w.drew ⟨b,0,none⟩ ((us'.take cs.length).take (n*i.size)) (λj v hv=>by
            rw [Addr.add_none]
            simp only [zero_add]
            show w.cell? _=_
            rw [cell?,q2]
            simp only [getElem?_take] at hv
            split at hv
            ·split at hv
             ·simpa using hv
             ·cases hv
            ·cases hv)
           rw [hul] at this
           simpa [firstCells] using this
          have rk:=r.kill hid rfl f1
          obtain ⟨u,g',w',e1,e2,e3,e4,e5⟩:=lC (ty:=ty) rk ht hi hz hz1 (cs:=cs.take (n*i.size)) (a:=some ⟨b,0,none⟩) (n:=n) (c:=c) (us:=(us'.take cs.length).take (n*i.size)) (by simp;omega) (q4.take _) (λu hu=>q5 u (mem_of_mem_take hu)) hz3 hold sr k2 hgr hbig
          rw [vO] at e2
          refine ⟨u,g',w',e1,e2,e3,e4,fx w' _ λc' _ hl=>e5.heap hl⟩
         ·obtain ⟨u,g',w',e1,e2,e3,e4,e5⟩:=KB (ty:=ty) r ht hi hid f1 f4 f5 hn sr k2 hrm
          exact ⟨u,g',w',e1,e2,e3,e4,fx w' _ λc' hc' _=>e5 c' hc'⟩
       ·cases h
      ·cases h
   ·cases h
  ·cases h
 ·cases h
end
section
variable {P:Program}{g:Gh}{T:VT}{w:World}
def BD (P:Program)(t:TypeId)(x:TV):Option TV:=match P.underlying t,x with
 |some (.array n _),.vec _ (e::es) _=>bif ble n (es.length+1) then some (.elt (e::es).flatten) else none
 |some (.array n _),.row size id off m=>bif ble n m then some (.ptr id (off*size)) else none
 |_,_=>none
theorem HY {g:Gh}{w:World}{t:TypeId}{x y:TV}{u:Value}(h:BD P t x=some y)(hx:VR g w x u):Looks0 P g w (arrayAt t u) y:=by
 unfold BD at h
 split at h
 ·rename_i n k sz e es tok hu
  cases hb:ble n (es.length+1) with
  |false=>rw [hb] at h;cases h
  |true=>
   rw [hb] at h
   have hb:=le_of_ble_eq_true hb
   injection h with h;subst h
   rcases hx.vec_inv with ⟨_,h2,_⟩ | ⟨b,o,c,us,rfl,f1,f2,f3,f4,f5,f6,f7,f8⟩ | ⟨_,_,h2,_⟩
   rotate_left 2
   ·cases h2
   ·cases h2
   ·refine .of_ok (.mk_elt f5 f6 f7 f8) λw'=> ?_
    have:¬(es.length+1<n):=by omega
    simp [arrayAt,run_underlying hu,this]
 ·rename_i n k sz id off m hu
  cases hb:ble n m with
  |false=>rw [hb] at h;cases h
  |true=>
   rw [hb] at h
   have hb:=le_of_ble_eq_true hb
   injection h with h;subst h
   obtain ⟨b,c,k1,k2,k3,k4,k5,rfl⟩:=hx.row_inv
   refine .of_ok (.ptr k1) λw'=> ?_
   have:¬(m<n):=by omega
   simp [arrayAt,run_underlying hu,this]
 ·cases h
def yG (P:Program)(t:TypeId)(x i:TV):Option TV:=match P.underlying t,i,x with
 |some (.array n e),.val (.int _ z),.agg cs=>match P.info? e with
  |some inf=>bif decide (0≤z)&&decide (z<n) then A2 P e cs (z.toNat*inf.size) else none
  |none=>none
 |_,_,_=>none
theorem FL {g:Gh}{w:World}{t:TypeId}{x i y:TV}{u v:Value}(h:yG P t x i=some y)(hx:VR g w x u)(hi:VR g w i v):Looks0 P g w (Instr.index t u v) y:=by
 unfold yG at h
 split at h
 ·rename_i n e k z cs hu
  split at h
  ·rename_i inf hinf
   cases hb:(decide (0≤z)&&decide (z<n)) with
   |false=>rw [hb] at h;cases h
   |true=>
    rw [hb] at h
    simp only [and_eq_true,decide_eq_true_eq] at hb
    rw [hi.val_inv]
    obtain ⟨us,rfl,h1⟩:=hx.agg_inv
    obtain ⟨v',h2,h3⟩:=Bt (P:=P) h h1
    exact ⟨v',h2,λw'=>by simp [Instr.index,asIntOf,run_underlying hu,hb.1,hb.2,bH hinf,h3 w']⟩
  ·cases h
 ·cases h
def nB (P:Program)(t:TypeId)(x i:TV):Option TV:=match i,x with
 | .val (.int _ z),.row size id off n=>match P.underlying t with
  |some (.slice e)=>match P.info? e with
   |some inf=>bif beq inf.size size&&decide (0≤z)&&decide (z<n) then some (.ptr id (off*size+z.toNat*size)) else none
   |none=>none
  |_=>none
 |_,_=>none
theorem FN {t:TypeId}{x i y:TV}{u v:Value}(h:nB P t x i=some y)(hx:VR g w x u)(hi:VR g w i v):Looks0 P g w (indexAt t u v) y:=by
 unfold nB at h
 split at h
 ·rename_i k z size id off n
  rw [hi.val_inv]
  split at h
  ·rename_i e hu
   split at h
   ·rename_i inf hinf
    cases hb:(beq inf.size size&&decide (0≤z)&&decide (z<n)) with
    |false=>rw [hb] at h;cases h
    |true=>
     rw [hb] at h
     simp only [and_eq_true,decide_eq_true_eq] at hb
     obtain ⟨⟨hs,h0⟩,h1⟩:=hb
     have hs:=eq_of_beq_eq_true hs
     injection h with h;subst h
     obtain ⟨b,c,h2,h3,h4,h5,h6,rfl⟩:=hx.row_inv
     exact .of_ok (.ptr h2) λw'=>by simp [indexAt,asIntOf,run_underlying hu,h0,h1,bH hinf,Addr.add_none,hs]
   ·cases h
  ·cases h
 ·cases h
def av (op:BinOp)(b:Bool):Bool:=match op with
 | .eql=>b
 |_=> !b
def KD:BinOp→Bool
 | .eql | .neq=>true
 |_=>false
def Qe (P:Program)(op:BinOp)(t:TypeId)(x y:TV):Option TV:=bif KD op then (match cL x with
 |some a=>match cL y with
  |some b=>match dq P t with
   |some s=>bif s.fits a&&s.fits b then some (.val (.bool (av op (aq a b)))) else none
   |none=>none
  |none=>none
 |none=>none) else none
theorem AW {t:TypeId}{s:KS}(h:dq P t=some s){op:BinOp}{xo yo:Operand}{a b:Value}(ha:s.fits a=true)(hb:s.fits b=true)(w:World):(eqGuard op t xo yo a b).run P w=.ok () w:=by
 obtain ⟨xs,cx,fx⟩:=dL ha
 obtain ⟨ys,cy,fy⟩:=dL hb
 have ok:=jt (P:=P) 6 t s h
 cases hs:s.agg with
 |true=>
  rw [cS hs cx,cS hs cy]
  have hg:=ok.guard hs
  cases op<;>simp [eqGuard,hg]
 |false=>
  have ha':∀cs,a≠ .agg cs:=λcs h=>by subst h;simp [KS.cells,hs] at cx
  have hn:a≠ .nilIface:=λh=>by
   subst h
   obtain ⟨c,hc⟩:=ok.one hs
   simp [KS.cells,hs] at cx;subst cx
   rw [hc] at fx;cases c<;>simp [bk,CK.fit] at fx
  unfold eqGuard
  cases op<;>cases a<;>simp_all []
theorem Qf {op:BinOp}{t:TypeId}{xo yo:Operand}{x y r:TV}{u v:Value}(h:Qe P op t x y=some r)(hx:VR g w x u)(hy:VR g w y v):
  Looks0 P g w (do eqGuard op t xo yo u v;binOp op t u v) r:=by
 have key:∀s,dq P t=some s→s.fits u=true→s.fits v=true→(op=.eql∨op=.neq)→
   Looks0 P g w (do eqGuard op t xo yo u v;binOp op t u v) (.val (.bool (av op (aq u v)))):=by
  clear h hx hy
  intro s h3 h4 h5 h6
  refine .of_ok (.val _) λw'=> ?_
  have hg:=AW h3 (op:=op) (xo:=xo) (yo:=yo) h4 h5 w'
  have he:=u3 h3 h4 h5 w'
  have hb:(binOp op t u v).run P w'=.ok (.bool (av op (aq u v))) w':=by
   obtain ⟨xs,cx,fx⟩:=dL h4
   obtain ⟨ys,cy,fy⟩:=dL h5
   have ok:=jt (P:=P) 6 t s h3
   cases hs:s.agg with
   |true=>
    rw [cS hs cx,cS hs cy] at he ⊢
    rcases h6 with rfl | rfl<;>simp [binOp,he,av]
   |false=>
    obtain ⟨c,hc⟩:=ok.one hs
    have fx1:∃x1,xs= [x1]∧c.fit x1=true:=by
     rw [hc] at fx
     match xs,fx with
     |[x1],fx=>simp [bk] at fx;exact ⟨x1,rfl,fx⟩
     |[],fx=>simp [bk] at fx
     |_::_::_,fx=>simp [bk] at fx
    have fy1:∃y1,ys= [y1]∧c.fit y1=true:=by
     rw [hc] at fy
     match ys,fy with
     |[y1],fy=>simp [bk] at fy;exact ⟨y1,rfl,fy⟩
     |[],fy=>simp [bk] at fy
     |_::_::_,fy=>simp [bk] at fy
    obtain ⟨x1,rfl,gx⟩:=fx1
    obtain ⟨y1,rfl,gy⟩:=fy1
    have eu:u=x1:=by cases u<;>simp [KS.cells,hs] at cx<;>exact cx
    have ev:v=y1:=by cases v<;>simp [KS.cells,hs] at cy<;>exact cy
    subst eu ev
    cases c with
    |int k=>
     cases u<;>simp [CK.fit] at gx
     cases v<;>simp [CK.fit] at gy
     subst gx gy
     rcases h6 with rfl | rfl<;>simp [binOp,Op.intCmp,aq,cl,bne,av]
    |bool=>
     cases u<;>simp [CK.fit] at gx
     cases v<;>simp [CK.fit] at gy
     rcases h6 with rfl | rfl<;>simp [binOp,he,av]
    |str=>
     cases u<;>simp [CK.fit] at gx
     cases v<;>simp [CK.fit] at gy
     rcases h6 with rfl | rfl<;>simp [binOp,Op.stringOp,aq,cl,av,beq_toListBytes]
  simp only [run_bind,hg,andThen_ok,hb]
 unfold Qe at h
 cases ho:KD op with
 |false=>rw [ho] at h;cases h
 |true=>
  rw [ho] at h
  simp only [cond_true] at h
  have h6:op=.eql∨op=.neq:=by cases op<;>simp [KD] at ho<;>simp
  cases h1:cL x with
  |none=>rw [h1] at h;cases h
  |some a=>
   cases h2:cL y with
   |none=>rw [h1,h2] at h;cases h
   |some b=>
    cases h3:dq P t with
    |none=>rw [h1,h2,h3] at h;cases h
    |some s=>
     rw [h1,h2,h3] at h
     simp only at h
     have e1:=cE h1 hx
     have e2:=cE h2 hy
     subst e1 e2
     cases hb:(s.fits u&&s.fits v) with
     |false=>rw [hb] at h;cases h
     |true=>
      rw [hb] at h
      simp only [and_eq_true] at hb
      injection h with h;subst h
      exact key s h3 hb.1 hb.2 h6
end
section
variable {P:Program}{g:Gh}{T:VT}{w:World}
def nU (n:Nat):Option TV→Option Nat
 |none=>some n
 |some y=>ek y
def fw (P:Program)(t:TypeId)(x:TV)(lo hi mx:Option TV):Option TV:=match x,mx with
 | .row size id off n,none=>match P.underlying t with
  |some (.slice e)=>match P.info? e with
   |some inf=>match dS lo,nU n hi with
    |some l,some h=>bif beq inf.size size&&ble l h&&ble h n then (match l with
     | 0=>some (.row size id off h)
     |_+1=>bif beq l h then some (.vec size [] (.past id (off+l))) else some (.row size id (off+l) (h-l))) else none
    |_,_=>none
   |none=>none
  |_=>none
 |_,_=>none
theorem FO {t:TypeId}{x y:TV}{lo hi mx:Option TV}{u:Value}{ul uh um:Option Value}(h:fw P t x lo hi mx=some y)(hx:VR g w x u)(hl:BR g w lo ul)(hh:BR g w hi uh)(hm:BR g w mx um):
  Looks0 P g w (sliceAt t u ul uh um) y:=by
 unfold fw at h
 split at h
 ·rename_i size id off n
  split at h
  ·rename_i e hu
   split at h
   ·rename_i inf hinf
    split at h
    ·rename_i l hv h1 h2
     cases hb:(beq inf.size size&&ble l hv&&ble hv n) with
     |false=>rw [hb] at h;cases h
     |true=>
      rw [hb] at h
      simp only [and_eq_true] at hb
      obtain ⟨⟨b1,b2⟩,b3⟩:=hb
      have b1:=eq_of_beq_eq_true b1
      have b2:=le_of_ble_eq_true b2
      have b3:=le_of_ble_eq_true b3
      subst b1
      obtain ⟨b,c,k1,k2,k3,k4,k5,rfl⟩:=hx.row_inv
      have hum:um=none:=by cases um<;>simp [BR] at hm;rfl
      subst hum
      have hrun:∀w':World,(sliceAt t (.slice (some ⟨b,off*inf.size,none⟩) n c) ul uh none).run P w'=.ok (.slice (if c=l then some ⟨b,off*inf.size,none⟩ else some ⟨b,off*inf.size+l*inf.size,none⟩) (hv-l) (c-l)) w':=by
       intro w'
       have:=gQ (P:=P) (isS:=true) (len:=n) (cap:=c) h1 (by cases hi<;>first | exact h2 | simp [nU]) hl hh b2 (by omega) w'
       simp only [sliceAt,Instr.slice,run_bind,run_underlying hu,andThen_ok,this,bH hinf,run_pure,map_some,Addr.add_none]
      cases l with
      |zero=>
       simp only [cond_true] at h
       injection h with h;subst h
       refine .of_ok ?_ hrun
       have e1:(if c=0 then some (⟨b,off*inf.size,none⟩:Addr) else some ⟨b,off*inf.size+0*inf.size,none⟩)=some ⟨b,off*inf.size,none⟩:=by simp
       rw [e1,sub_zero,sub_zero]
       exact .row k1 k2 (by omega) k4 k5
      |succ l'=>
       simp only [cond_true] at h
       cases hq:beq (l' +1) hv with
       |true=>
        rw [hq] at h
        have hq:=eq_of_beq_eq_true hq
        injection h with h;subst h
        refine .of_ok ?_ hrun
        rw [←hq,Nat.sub_self]
        split
        ·exact .mk_vec (us:= []) (by simp) (by omega) (by omega) (by simp) (λhlt=>absurd hlt (by omega)) (by simpa using VRs.nil g w) (by simp) (by simp) (by simp)
        ·refine .mk_vec (us:= []) (by simp) (by omega) (by omega) (by simp) (λhlt=>⟨k1,k2,?_,?_⟩) (by simpa using VRs.nil g w) (by simp) (by simp) (by simp)
         ·rw [zero_mul,add_zero,←add_mul]
         ·rw [←add_mul,←add_mul,←k5];congr 1;omega
       |false=>
        rw [hq] at h
        have hq:=ne_of_beq_eq_false hq
        injection h with h;subst h
        refine .of_ok ?_ hrun
        rw [if_neg (by omega),←add_mul]
        exact .row k1 k2 (by omega) (by omega) (by rw [←k5];congr 1;omega)
    ·cases h
   ·cases h
  ·cases h
 ·cases h
def pY (P:Program)(t:TypeId)(x:TV)(lo hi mx:Option TV):Option TV:=match x,mx with
 | .val (.slice none 0 0),none=>match P.underlying t with
  |some (.slice e)=>match P.info? e,dS lo,nU 0 hi with
   |some _,some 0,some 0=>some (.val (.slice none 0 0))
   |_,_,_=>none
  |_=>none
 |_,_=>none
theorem FP {t:TypeId}{x y:TV}{lo hi mx:Option TV}{u:Value}{ul uh um:Option Value}(h:pY P t x lo hi mx=some y)(hx:VR g w x u)(hl:BR g w lo ul)(hh:BR g w hi uh)(hm:BR g w mx um):
  Looks0 P g w (sliceAt t u ul uh um) y:=by
 unfold pY at h
 split at h
 ·split at h
  ·rename_i e hu
   split at h
   ·rename_i inf hinf h1 h2
    injection h with h;subst h
    rw [hx.val_inv]
    have hum:um=none:=by cases um<;>simp [BR] at hm;rfl
    subst hum
    refine .of_ok (.val _) λw'=> ?_
    have:=gQ (P:=P) (isS:=true) (len:=0) (cap:=0) h1 (by cases hi<;>first | exact h2 | simp [nU]) hl hh (le_refl _) (by omega) w'
    simp only [sliceAt,Instr.slice,run_bind,run_underlying hu,andThen_ok,this,bH hinf,run_pure,map_none,if_true,sub_zero]
   ·cases h
  ·cases h
 ·cases h
def FQ (P:Program)(t:TypeId)(x:TV):Option TV:=match x,P.underlying t with
 | .row _ _ _ n,some (.slice _)=>some (.val (.int .i64 n))
 |_,_=>none
theorem KE {t ty:TypeId}{x y:TV}{u:Value}(h:FQ P t x=some y)(hx:VR g w x u):Looks0 P g w (len_ #[t] ty #[u]) y:=by
 unfold FQ at h
 split at h
 ·rename_i hu
  injection h with h;subst h
  obtain ⟨b,c,_,_,_,_,_,rfl⟩:=hx.row_inv
  exact .of_ok (.val _) λw'=>by simp [len_,run_underlying hu,goInt]
 ·cases h
def FR (P:Program)(t:TypeId)(x:TV):Option TV:=match x,P.underlying t with
 | .val (.slice _ _ c),some (.slice _)=>some (.val (.int .i64 c))
 |_,_=>none
theorem KF {t ty:TypeId}{x y:TV}{u:Value}(h:FR P t x=some y)(hx:VR g w x u):Looks0 P g w (cap_ #[t] ty #[u]) y:=by
 unfold FR at h
 split at h
 ·rename_i hu
  injection h with h;subst h
  rw [hx.val_inv]
  exact .of_ok (.val _) λw'=>by simp [cap_,run_underlying hu,goInt]
 ·cases h
theorem oU {z:Array Value}{n m:Nat}(h:n≤m):(madeCells z m).toList.take n=iH z n:=by
 unfold madeCells iH
 apply ext_getElem?
 intro j
 simp only [getElem?_take,Array.toList_map,getElem?_map,getElem?_toList]
 by_cases hj:j<n
 ·rw [if_pos hj]
  simp [hj,Nat.lt_of_lt_of_le hj h]
 ·rw [if_neg hj]
  simp [hj]
def nV (P:Program)(T:VT)(t:TypeId)(x y:TV):Option (TV × VT):=match x,y,P.underlying t with
 | .val (.int _ l),.val (.int _ c),some (.slice e)=>match P.info? e with
  |some i=>match i.zero with
   |some z=>bif decide (0≤l)&&decide (l≤c)&&decide ((i.bytes:Int)*c≤281474976710656)&&decide (c≤140737488355328)&&z.cells.toList.all oneCell' &&decide (0<z.cells.size) then
     some (.row i.size T.objs.length 0 l.toNat,T.newRow ((iH z.cells (l.toNat*i.size)).map .val)) else none
   |none=>none
  |none=>none
 |_,_,_=>none
theorem H0 (r:RW g T w){t:TypeId}{x y res:TV}{u v:Value}{T':VT}(h:nV P T t x y=some (res,T'))(hx:VR g w x u)(hy:VR g w y v):Does P g T w (Instr.makeSlice t u v) res T'∧T'.objs.take T.objs.length=T.objs:=by
 unfold nV at h
 split at h
 ·rename_i kl l kc c e hu
  split at h
  ·rename_i i hi
   split at h
   ·rename_i z hz
    cases hb:(decide (0≤l)&&decide (l≤c)&&decide ((i.bytes:Int)*c≤281474976710656)&&decide (c≤140737488355328)&&z.cells.toList.all oneCell' &&decide (0<z.cells.size)) with
    |false=>rw [hb] at h;cases h
    |true=>
     rw [hb] at h
     simp only [and_eq_true,decide_eq_true_eq] at hb
     obtain ⟨⟨⟨⟨⟨h0,h1⟩,h2⟩,h3⟩,h4⟩,h5⟩:=hb
     injection h with h;injection h with e1 e2;subst e1 e2
     rw [hx.val_inv,hy.val_inv]
     refine ⟨?_,ga _ _⟩
     have hrun:=run_make (P:=P) w t e i z hu hi hz kl kc l c h0 h1 h2 (by omega)
     have hgr:Gr w (w.alloc (.cells (madeCells z.cells (c.toNat*i.size)) e)):=(Gr.refl w).alloc _
     have hnew:=heap_alloc_new w (.cells (madeCells z.cells (c.toNat*i.size)) e)
     have hlc:l.toNat*i.size≤c.toNat*i.size:=Nat.mul_le_mul_right _ (by omega)
     have hlen:((iH z.cells (l.toNat*i.size)).map TV.val).length=l.toNat*i.size:=by simp [iH]
     have ro:OR g (w.alloc (.cells (madeCells z.cells (c.toNat*i.size)) e)) w.heap.size (.row ((iH z.cells (l.toNat*i.size)).map .val)):=by
      refine ⟨(madeCells z.cells (c.toNat*i.size)).toList,e,by simpa using hnew,?_,?_,?_⟩
      ·rw [hlen];simp [size_madeCells];exact hlc
      ·rw [hlen,oU hlc];exact VRs.vals g _ _
      ·intro u hu
       have hu:=mem_of_mem_take hu
       rw [mem_toList_iff] at hu
       obtain ⟨j,hj,rfl⟩:=getElem_of_mem hu
       have:(madeCells z.cells (c.toNat*i.size))[j]=z.cells[j%z.cells.size]'(mod_lt _ h5):=by
        simp only [madeCells,getElem_map,getElem_range]
        exact getElem!_pos z.cells (j%z.cells.size) (mod_lt _ h5)
       rw [this]
       exact all_eq_true.1 h4 _ (mem_toList_iff.2 (getElem_mem _))
     generalize w.alloc (.cells (madeCells z.cells (c.toNat*i.size)) e)=w' at*
     have r1:=(r.gr hgr).addObj (r.fresh (le_refl _)) (o:=.row ((iH z.cells (l.toNat*i.size)).map .val)) rfl ro
     have e2:=(Evo.of_gr r hgr).trans (Evo.addObj (w:=w') (b:=w.heap.size) (r.out T.objs.length (le_refl _)))
     have hlt:w.heap.size<w'.heap.size:=(Array.getElem?_eq_some_iff.1 hnew).1
     have hcz:bI w' w.heap.size=c.toNat*i.size:=by rw [bG hnew,size_madeCells]
     refine ⟨_,_,_,hrun,?_,e2,r1,Same.of_gr r hgr⟩
     have:=VR.row (g:=g.addObj T.objs.length w.heap.size) (w:=w') (size:=i.size) (id:=T.objs.length) (off:=0) (n:=l.toNat) (b:=w.heap.size) (c:=c.toNat) (by simp [Gh.addObj]) hlt (by omega) (by unfold maxLen;omega) (by rw [hcz,zero_add])
     rw [zero_mul] at this
     exact this
   ·cases h
  ·cases h
 ·cases h
def nC (P:Program)(ro:Nat)(T:VT)(t:TypeId)(a x:TV):Option (TV × VT):=match a with
 | .ptr id off=>match T.objs[id]?,bR x,P.info? t with
  |some (.row cs),some new,some i=>bif beq i.size new.length&&ble (off+new.length) cs.length&&new.all fQ&&ble ro id then some (.val undef,{T with objs:=T.objs.set id (.row (bs cs off new))}) else none
  |_,_,_=>none
 |_=>none
theorem wM (r:RW g T w){ro:Nat}{t:TypeId}{a x y:TV}{ua u:Value}{T':VT}(h:nC P ro T t a x=some (y,T'))(ha:VR g w a ua)(hx:VR g w x u):
  ∃g' w',(storeAt t ua u).run P w=.ok () w'∧VR g' w' y undef∧Evo g w g' w'∧RW g' T' w'∧Fix ro g T w T' w':=by
 unfold nC at h
 split at h
 ·rename_i id off
  split at h
  ·rename_i cs new i hid hc hi
   cases hb:(beq i.size new.length&&ble (off+new.length) cs.length&&new.all fQ&&ble ro id) with
   |false=>rw [hb] at h;cases h
   |true=>
    rw [hb] at h
    simp only [and_eq_true] at hb
    obtain ⟨⟨⟨b1,b2⟩,h3⟩,b4⟩:=hb
    have h1:=eq_of_beq_eq_true b1
    have h2:=le_of_ble_eq_true b2
    have hr:=le_of_ble_eq_true b4
    injection h with h;injection h with e1 e2;subst e1 e2
    obtain ⟨b,hb,rfl⟩:=ha.ptr_inv
    obtain ⟨b',h4,⟨us,ty,h5,h6,h7,h8⟩,_⟩:=r.obj id _ hid rfl
    rw [hb] at h4;injection h4 with h4;subst h4
    have k:=kT hc hx
    have ho:=ky h3 k
    have hl:u.cells.toList.length=new.length:=k.1
    have hrun:=run_storeCells_at (P:=P) b off ty u.cells.toList 0 us.toArray w h5 (by simp at hl ⊢;omega) ho
    simp only [add_zero,hl] at hrun
    have hsr:=setRow_heap w b _ (us.take off++u.cells.toList++us.drop (off+new.length)).toArray ty (0,0) h5
    have hll:(us.take off++u.cells.toList++us.drop (off+new.length)).length=us.length:=by simp at hl ⊢;omega
    have hcs:bI (w.setRow b (us.take off++u.cells.toList++us.drop (off+new.length)).toArray) b=bI w b:=by
     rw [bG hsr,bG h5,size_toArray,size_toArray,hll]
    have hoth:∀c,c≠b→(w.setRow b (us.take off++u.cells.toList++us.drop (off+new.length)).toArray).heap[c]?=w.heap[c]?:=λc hc=>setRow_other w b c _ hc
    obtain ⟨_,e0⟩:=r.setObj hid rfl hb (o':=.gone) (w':=w.setRow b (us.take off++u.cells.toList++us.drop (off+new.length)).toArray) ⟨rfl,rfl,rfl⟩ (by simp) hoth hcs (λh=>by cases h)
    have k2:=((((h7.take off).app k).app (h7.drop (off+new.length)))).mono e0
    have ht:(us.take off++u.cells.toList++us.drop (off+new.length)).take (bs cs off new).length=(us.take cs.length).take off++u.cells.toList++(us.take cs.length).drop (off+new.length):=by
     have hsl:(bs cs off new).length=cs.length:=by simp [bs];omega
     rw [hsl]
     apply ext_getElem?
     intro j
     rw [getElem?_take]
     have hA:(us.take off).length=off:=by simp;omega
     have hA2:((us.take cs.length).take off).length=off:=by simp;omega
     rcases lt_or_ge j cs.length with hj | hj
     ·rw [if_pos hj,append_assoc,append_assoc,getElem?_append (l₁:=us.take off),getElem?_append (l₁:=(us.take cs.length).take off),hA,hA2]
      split
      ·rename_i hjo
       simp [hjo,hj]
      ·rw [getElem?_append,getElem?_append]
       split
       ·rfl
       ·simp only [getElem?_drop,getElem?_take]
        rw [if_pos (by omega)]
     ·rw [if_neg (by omega)]
      symm
      apply List.getElem?_eq_none
      simp at hl ⊢;omega
    have o2:∀v∈(us.take off++u.cells.toList++us.drop (off+new.length)).take (bs cs off new).length,v.oneCell'=true:=by
     rw [ht]
     intro v hv
     simp only [mem_append] at hv
     rcases hv with (hv | hv) | hv
     ·exact h8 v (mem_of_mem_take hv)
     ·exact ho v hv
     ·exact h8 v (mem_of_mem_drop hv)
    obtain ⟨r',e'⟩:=r.setObj hid rfl hb (o':=.row (bs cs off new)) (w':=w.setRow b (us.take off++u.cells.toList++us.drop (off+new.length)).toArray) ⟨rfl,rfl,rfl⟩ (by simp) hoth hcs
     (λ_=>⟨_,ty,hsr,by rw [hll];simp [bs];omega,by rw [ht];exact k2,o2⟩)
    refine ⟨g,_,?_,.val _,e',r',df r hid rfl hb hr hoth⟩
    have hs:u.cells.size=i.size:=by rw [h1,←hl];simp
    simp only [storeAt,sureAddr,storeVar,run_bind,run_pure,andThen_ok,bH hi,hs]
    simpa using hrun
  ·cases h
 ·cases h
def lD:List (List TV)→Option (List Int)
 |[]=>some []
 |[.val (.int .u8 z)]::r=>(lD r).map (z:: ·)
 |_::_=>none
def A4 (l:List Int):ByteArray:=⟨(l.map λn=>UInt8.ofNat n.toNat).toArray⟩
theorem wN:∀{es:List (List TV)} {l:List Int} {us:List Value},lD es=some l→VRs g w es.flatten us→us=l.map (Value.int .u8)
 |[],l,us,h,k=>by
  injection h with h;subst h
  exact List.eq_nil_of_length_eq_zero (by simpa using k.1)
 |e::es,l,us,h,k=>by
  unfold lD at h
  split at h
  ·rename_i heq;cases heq
  ·rename_i z r heq
   injection heq with h1 h2
   subst h1 h2
   simp only [map_eq_some_iff] at h
   obtain ⟨l',h,rfl⟩:=h
   simp only [List.flatten_cons,List.cons_append,nil_append] at k
   match us,k with
   |[],k=>have:=k.1;simp at this
   |u::us,k=>
    have h3:=(k.2 0 _ _ rfl rfl).val_inv
    subst h3
    have k':VRs g w _ us:=⟨by simpa using k.1,λj x u hx hu=>k.2 (j+1) x u hx hu⟩
    rw [wN h k'];rfl
  ·cases h
theorem FS (l:List Int):l.foldl (λr n=>r.push (UInt8.ofNat n.toNat)) ByteArray.empty=A4 l:=by
 have key:∀(l:List Int) (s:ByteArray),l.foldl (λr n=>r.push (UInt8.ofNat n.toNat)) s=⟨s.data++(l.map λn=>UInt8.ofNat n.toNat).toArray⟩:=by
  intro l
  induction l with
  |nil=>intro s;simp
  |cons n l ih=>
   intro s
   rw [List.foldl_cons,ih]
   congr 1
   simp [ByteArray.push]
 rw [key]
 simp [A4,ByteArray.empty,ByteArray.emptyWithCapacity]
 rfl
def gA (P:Program)(T:VT)(s d:TypeId)(x:TV):Option TV:=match P.underlying s,P.underlying d with
 |some (.slice e),some .string=>match P.underlying e with
  |some (.int .u8)=>match x with
   | .val _=>none
   |x=>match bL T 1 x with
    |some es=>(lD es).map λl=>.val (.string (A4 l))
    |none=>none
  |_=>none
 |_,_=>none
end
section
variable {P:Program}{g:Gh}{T:VT}{w:World}
theorem D5 (r:RW g T w){size:Nat}{x:TV}{u:Value}{es:List (List TV)}(hnv:∀v,x≠ .val v)(h:bL T size x=some es)(hx:VR g w x u):
  (u=.slice none 0 0∧es= [])∨(∃b o c us,u=.slice (some ⟨b,o,none⟩) es.length c∧VRs g w es.flatten us∧us.length=es.length*size∧∀w',Same g T w w'→∀(j:Nat) v,us[j]?=some v→w'.cell? ⟨b,o+j,none⟩=some v)∨∃a,u=.slice (some a) 0 0∧es= []:=by
 cases x<;>simp only [bL] at h<;>try (cases h)
 case val v=>exact absurd rfl (hnv v)
 case vec sz es' tok=>
  cases hb:beq sz size with
  |false=>rw [hb] at h;cases h
  |true=>
   rw [hb] at h;injection h with h;subst h
   have hsz:=eq_of_beq_eq_true hb
   subst hsz
   rcases hx.vec_inv with ⟨h1,h2,_⟩ | ⟨b,o,c,us,h1,h2,h3,h4,h5,h6,h7,h8,h9⟩ | ⟨a,h1,h2,_⟩
   rotate_left 2
   ·exact .inr (.inr ⟨a,h1,h2⟩)
   ·exact .inl ⟨h1,h2⟩
   ·refine .inr (.inl ⟨b,o,c,us,h1,h6,by rw [h6.1,cf h4],λw' hs j v hv=> ?_⟩)
    rw [hs.st _ _ (h7 j (by rw [←h6.1];exact (List.getElem?_eq_some_iff.1 hv).1))];exact h8 j v hv
 case row sz id off n=>
  split at h
  ·rename_i cs hid
   cases hb:(beq sz size&&ble ((off+n)*size) cs.length) with
   |false=>rw [hb] at h;cases h
   |true=>
    rw [hb] at h;injection h with h;subst h
    simp only [and_eq_true] at hb
    have hsz:=eq_of_beq_eq_true hb.1
    have hle:=le_of_ble_eq_true hb.2
    subst hsz
    obtain ⟨b,c,h1,h2,h3,h4,h5,rfl⟩:=hx.row_inv
    obtain ⟨b',q1,⟨us,t,q2,q3,q4,q5⟩,_⟩:=r.obj id _ hid rfl
    rw [h1] at q1;injection q1 with q1;subst q1
    rw [add_mul] at hle
    have hl:((cs.drop (off*sz)).take (n*sz)).length=n*sz:=by simp;omega
    obtain ⟨k1,k2,k3⟩:=f9 hl
    have hv:=(q4.drop (off*sz)).take (n*sz)
    rw [k1,k3]
    refine .inr (.inl ⟨b,off*sz,c,_,rfl,hv,by rw [hv.1,hl],λw' hs j v hv=> ?_⟩)
    rw [cell?,hs.obj id _ b hid rfl h1,q2]
    simp only [getElem?_take,getElem?_drop] at hv
    split at hv
    ·split at hv
     ·simpa using hv
     ·cases hv
    ·cases hv
  ·cases h
 case sl id off n cap=>
  split at h
  ·rename_i cs hid
   cases hb:ble (off+n*size) cs.length with
   |false=>rw [hb] at h;cases h
   |true=>
    rw [hb] at h;injection h with h;subst h
    have hle:=le_of_ble_eq_true hb
    obtain ⟨b,h1,rfl⟩:=hx.sl_inv
    obtain ⟨b',q1,⟨us,t,q2,q4,q5⟩,_⟩:=r.obj id _ hid rfl
    rw [h1] at q1;injection q1 with q1;subst q1
    have hl:((cs.drop off).take (n*size)).length=n*size:=by simp;omega
    obtain ⟨k1,k2,k3⟩:=f9 hl
    have hv:=(q4.drop off).take (n*size)
    rw [k1,k3]
    refine .inr (.inl ⟨b,off,cap,_,rfl,hv,by rw [hv.1,hl],λw' hs j v hv=> ?_⟩)
    rw [cell?,hs.obj id _ b hid rfl h1,q2]
    simp only [getElem?_take,getElem?_drop] at hv
    split at hv
    ·simpa using hv
    ·cases hv
  ·rename_i cs hid
   cases hb:ble (off+n*size) cs.length with
   |false=>rw [hb] at h;cases h
   |true=>
    rw [hb] at h;injection h with h;subst h
    have hle:=le_of_ble_eq_true hb
    obtain ⟨b,h1,rfl⟩:=hx.sl_inv
    obtain ⟨b',q1,⟨us,t,q2,q3,q4,q5⟩,_⟩:=r.obj id _ hid rfl
    rw [h1] at q1;injection q1 with q1;subst q1
    have hl:((cs.drop off).take (n*size)).length=n*size:=by simp;omega
    obtain ⟨k1,k2,k3⟩:=f9 hl
    have hv:=(q4.drop off).take (n*size)
    rw [k1,k3]
    refine .inr (.inl ⟨b,off,cap,_,rfl,hv,by rw [hv.1,hl],λw' hs j v hv=> ?_⟩)
    rw [cell?,hs.obj id _ b hid rfl h1,q2]
    simp only [getElem?_take,getElem?_drop] at hv
    split at hv
    ·split at hv
     ·simpa using hv
     ·cases hv
    ·cases hv
  ·cases h
theorem H1 (r:RW g T w){s d:TypeId}{x y:TV}{u:Value}(h:gA P T s d x=some y)(hx:VR g w x u):Looks P g T w (convert s d u) y:=by
 unfold gA at h
 split at h
 ·rename_i e hs hd
  split at h
  ·rename_i he
   split at h
   ·cases h
   ·rename_i hnv
    split at h
    ·rename_i es hr
     simp only [map_eq_some_iff] at h
     obtain ⟨l,hb,rfl⟩:=h
     rcases D5 r hnv hr hx with ⟨rfl,rfl⟩ | ⟨b,o,c,us,rfl,h1,h2,h3⟩ | ⟨a,rfl,rfl⟩
     rotate_left 2
     ·injection hb with hb;subst hb
      refine .of_ok (.val _) λw'=> ?_
      rw [run_convert_bytes_string w' s d e (some a) 0 0 hs he hd]
      simp [Conv.bytesToString,loadCells,loadCellsFrom];rfl
     ·injection hb with hb;subst hb
      refine .of_ok (.val _) λw'=> ?_
      rw [run_convert_bytes_string w' s d e none 0 0 hs he hd]
      simp [Conv.bytesToString];rfl
     ·have hus:=wN hb h1
      subst hus
      refine ⟨_,.val _,λw' hsame=> ?_⟩
      rw [run_convert_bytes_string w' s d e _ _ _ hs he hd]
      have hl:=run_loadCells_list (P:=P) w' ⟨b,o,none⟩ (l.map (Value.int .u8)) (λj v hv=>by rw [Addr.add_none];exact h3 w' hsame j v hv)
      rw [h2,mul_one] at hl
      rw [run_bytesToString w' _ _ _ l hl,FS]
    ·cases h
  ·cases h
 ·cases h
theorem Er {kt:TypeId}{sh:KS}(hsh:dq P kt=some sh){k:Value}(hk:sh.fits k=true)(w:World):∀(ms:List MapEntry) (i:Nat),(∀e∈ms,sh.fits e.key=true)→
  (findAsking kt k ms i).run P w=.ok ((ms.zipIdx i).findSome? λp=>bif aq k p.1.key then some (p.2,p.1.val) else none) w
 |[],i,_=>by simp [findAsking]
 |e::ms,i,h=>by
  have he:=u3 hsh hk (h e (by simp)) w
  simp only [findAsking,run_bind,he,andThen_ok,zipIdx_cons,List.findSome?_cons]
  cases hq:aq k e.key with
  |true=>simp
  |false=>
   simp only [Bool.false_eq_true,if_false,cond_false]
   exact Er hsh hk w ms (i+1) λe' he'=>h e' (by simp [he'])
theorem wO {kd:TypeDesc}{sh:KS}{kt:TypeId}(hu:P.underlying kt=some kd)(hsh:dq P kt=some sh){k:Value}(hk:sh.fits k=true):∀(ms:List MapEntry) (i:Nat),(∀e∈ms,sh.fits e.key=true)→
  ∀a,findNow kd k ms i=some a→a=(ms.zipIdx i).findSome? λp=>bif aq k p.1.key then some (p.2,p.1.val) else none
 |[],i,_,a,h=>by simp [findNow] at h;simp [h]
 |e::ms,i,hf,a,h=>by
  simp only [zipIdx_cons,List.findSome?_cons]
  have hfe:=hf e (by simp)
  have hsame:∀b,sameNow kd k e.key=some b→b=aq k e.key:=by
   intro b hb
   unfold sameNow at hb
   split at hb
   ·split at hb
    ·rename_i h1;subst h1;injection hb with hb;subst hb;simp [*,aq,cl]
    ·cases hb
   ·injection hb with hb;subst hb;simp [*,aq,cl]
   ·injection hb with hb;subst hb;simp [*,aq,cl]
   ·cases hb
  unfold findNow at h
  split at h
  ·rename_i hs
   have:=hsame _ hs
   injection h with h;subst h
   rw [←this];simp
  ·rename_i hs
   have:=hsame _ hs
   rw [←this]
   simp only [cond_false]
   exact wO hu hsh hk ms (i+1) (λe' he'=>hf e' (by simp [he'])) a h
  ·cases h
theorem jv {kt:TypeId}{sh:KS}(hsh:dq P kt=some sh){k:Value}(hk:sh.fits k=true)(w:World)(ms:List MapEntry)(h:∀e∈ms,sh.fits e.key=true):
  (findKey kt k ms).run P w=.ok ((ms.zipIdx 0).findSome? λp=>bif aq k p.1.key then some (p.2,p.1.val) else none) w:=by
 obtain ⟨kd,hu,_⟩:=(jt (P:=P) 6 kt sh hsh).isA
 simp only [findKey,run_bind,run_underlying hu,andThen_ok]
 split
 ·rename_i a ha
  rw [run_pure,wO hu hsh hk ms 0 h a ha]
 ·exact Er hsh hk w ms 0 h
theorem pZ {k:Value}:∀{es:List (Value × TV × Nat)} {ms:List MapEntry} (i:Nat),ms.map (·.key)=es.map (·.1)→VRs g w (es.map (·.2.1)) (ms.map (·.val))→
  (dj k es=none∧((ms.zipIdx i).findSome? λp=>bif aq k p.1.key then some (p.2,p.1.val) else none)=none)∨
  ∃x j v,dj k es=some x∧((ms.zipIdx i).findSome? λp=>bif aq k p.1.key then some (p.2,p.1.val) else none)=some (i+j,v)∧VR g w x v∧(∃e m,es[j]?=some e∧ms[j]?=some m∧aq k e.1=true∧m.key=e.1∧m.val=v∧x=e.2.1)∧(∀j',j' <j→∀e,es[j']?=some e→aq k e.1=false)
 |[],[],i,_,_=>.inl ⟨rfl,rfl⟩
 |[],_::_,i,h,_=>by simp at h
 |_::_,[],i,h,_=>by simp at h
 |e::es,m::ms,i,h,hv=>by
  simp only [map_cons,List.cons.injEq] at h
  obtain ⟨h1,h2⟩:=h
  simp only [map_cons] at hv
  have hv0:VR g w e.2.1 m.val:=hv.2 0 _ _ rfl rfl
  have hv1:VRs g w (es.map (·.2.1)) (ms.map (·.val)):=⟨by simpa using hv.1,λj x u hx hu=>hv.2 (j+1) x u hx hu⟩
  simp only [dj,zipIdx_cons,List.findSome?_cons,h1]
  cases hq:aq k e.1 with
  |true=>
   simp only [cond_true]
   exact .inr ⟨_,0,_,rfl,rfl,hv0,⟨e,m,rfl,rfl,hq,h1,rfl,rfl⟩,λj' hj=>by omega⟩
  |false=>
   simp only [cond_false]
   rcases pZ (i+1) h2 hv1 with h3 | ⟨x,j,v,h3,h4,h5,⟨e',m',h6,h7,h8⟩,h9⟩
   ·exact .inl h3
   ·refine .inr ⟨x,j+1,v,h3,?_,h5,⟨e',m',h6,h7,h8⟩,λj' hj e2 he2=> ?_⟩
    ·rw [h4];congr 2;omega
    ·cases j' with
     |zero=>simp at he2;subst he2;exact hq
     |succ j'=>exact h9 j' (by omega) e2 he2
end
section
variable {P:Program}{g:Gh}{T:VT}{w:World}
def KG:CK→CK→Bool
 | .int a,.int b=>decide (a=b)
 | .bool,.bool=>true
 | .str,.str=>true
 |_,_=>false
def ur:List CK→List CK→Bool
 |[],[]=>true
 |a::al,b::bl=>KG a b&&ur al bl
 |_,_=>false
def j6 (a b:KS):Bool:=(a.agg==b.agg)&&ur a.ks b.ks
theorem NQ {a b:CK}(h:KG a b=true):a=b:=by
 cases a<;>cases b<;>simp [KG] at h<;>simp [h]
theorem BE:∀{a b:List CK},ur a b=true→a=b
 |[],[],_=>rfl
 |[],_::_,h=>by simp [ur] at h
 |_::_,[],h=>by simp [ur] at h
 |a::al,b::bl,h=>by
  simp only [ur,and_eq_true] at h
  rw [NQ h.1,BE h.2]
theorem ut {a b:KS}(h:j6 a b=true):a=b:=by
 simp only [j6,and_eq_true,beq_iff_eq] at h
 cases a;cases b
 simp at h
 rw [h.1,BE h.2]
def FT (z:Value):TV:=match z with
 | .agg us=>.agg (us.toList.map .val)
 |v=>.val v
theorem Es (z:Value):VR g w (FT z) z:=by
 unfold FT
 split
 ·rename_i us
  have:=VR.mk_agg (VRs.vals g w us.toList)
  simpa using this
 ·exact .val _
def jw (ok:Bool)(o:Option TV)(z:Value):TV:=match o with
 |some x=>bif ok then .tup [x,.val (.bool true)] else x
 |none=>bif ok then .tup [FT z,.val (.bool false)] else FT z
def fA (P:Program)(T:VT)(t:TypeId)(m k:TV)(ok:Bool):Option TV:=match P.underlying t,cL k with
 |some (.map kt et),some kv=>match dq P kt,P.info? et with
  |some sh,some i=>match i.zero with
   |some z=>bif sh.fits kv then (match m with
    | .val (.map none)=>some (jw ok none z)
    | .map id=>match T.objs[id]? with
     |some (.map sh' look _ _)=>bif j6 sh sh' then some (jw ok (look kv) z) else none
     |_=>none
    |_=>none) else none
   |none=>none
  |_,_=>none
 |_,_=>none
theorem qS {ok:Bool}{z:Value}{o:Option TV}{v:Option Value}(h:match o,v with | some x,some u=>VR g w x u | none,none=>True | _,_=>False):
  VR g w (jw ok o z) (match v with | some u=>(if ok then .tuple #[u,.bool true] else u) | none=>(if ok then .tuple #[z,.bool false] else z)):=by
 cases o<;>cases v<;>simp only at h<;>cases ok<;>simp only [jw,cond_true,cond_false,if_true,Bool.false_eq_true,if_false]
 ·exact Es z
 ·exact .mk_tup (us:= [z,.bool false]) (.cons (Es z) (.cons (.val _) (.nil g w)))
 ·exact h
 ·exact .mk_tup (us:= [_,.bool true]) (.cons h (.cons (.val _) (.nil g w)))
theorem wP (r:RW g T w){t:TypeId}{m k y:TV}{ok:Bool}{um uk:Value}(h:fA P T t m k ok=some y)(hm:VR g w m um)(hk:VR g w k uk):Looks P g T w (Instr.lookup t um uk ok) y:=by
 unfold fA at h
 split at h
 ·rename_i kt et kv hu hkv
  have hkv':=cE hkv hk
  subst hkv'
  split at h
  ·rename_i sh i hsh hi
   split at h
   ·rename_i z hz
    cases hf:sh.fits uk with
    |false=>rw [hf] at h;cases h
    |true=>
     rw [hf] at h
     simp only [cond_true] at h
     have hzero:∀w',(zeroValue et).run P w'=.ok z w':=λw'=>by simp [zeroValue,typeInfo,hi,hz]
     split at h
     ·injection h with h;subst h
      rw [hm.val_inv]
      refine ⟨_,qS (v:=none) (o:=none) trivial,λw' _=> ?_⟩
      have hfk:=jv hsh hf w' [] (by simp)
      simp only [List.zipIdx_nil,List.findSome?_nil] at hfk
      simp [Instr.lookup,run_underlying hu,dK hsh hf,hfk,hzero]
     ·rename_i id
      split at h
      ·rename_i sh' look es ck hid
       cases hq:j6 sh sh' with
       |false=>rw [hq] at h;cases h
       |true=>
        rw [hq] at h
        have:=ut hq
        subst this
        injection h with h;subst h
        obtain ⟨b,hb,rfl⟩:=hm.map_inv
        obtain ⟨b',h1,⟨ms,h2,h3,h4,h5,h6,h7,h8⟩,_⟩:=r.obj id _ hid rfl
        rw [hb] at h1;injection h1 with h1;subst h1
        have hfit:∀e∈ms.toList,sh.fits e.key=true:=λe he=>by
         have:e.key∈ms.toList.map (·.key):=mem_map_of_mem he
         rw [h3] at this
         obtain ⟨e',he',heq⟩:=mem_map.1 this
         rw [←heq];exact h6 e' he'
        rw [h8 uk hf]
        have hget:∀w',Same g T w w'→w'.heap[b]?=some (.map ms ck):=λw' hs=>(hs.obj id _ b hid rfl hb).trans h2
        rcases pZ (k:=uk) 0 h3 h4 with ⟨g1,g2⟩ | ⟨x,j,v,g1,g2,g3,_⟩
        ·rw [g1]
         refine ⟨_,qS (v:=none) (o:=none) trivial,λw' hs=> ?_⟩
         have hfk:=jv hsh hf w' ms.toList hfit
         rw [g2] at hfk
         simp [Instr.lookup,run_underlying hu,getObj,Sem.run,hget w' hs,dK hsh hf,hfk,hzero]
        ·rw [g1]
         refine ⟨_,qS (v:=some v) (o:=some x) g3,λw' hs=> ?_⟩
         have hfk:=jv hsh hf w' ms.toList hfit
         rw [g2] at hfk
         simp [Instr.lookup,run_underlying hu,getObj,Sem.run,hget w' hs,dK hsh hf,hfk]
      ·cases h
     ·cases h
   ·cases h
  ·cases h
 ·cases h
theorem rX {c:CK}{v:Value}(h:c.fit v=true)(n:Nat):sameBits n v v=true:=by
 cases c<;>cases v<;>simp [CK.fit] at h<;>cases n<;>simp [sameBits,beq_toListBytes]
theorem rY {s:KS}{v:Value}(h:s.fits v=true):sameBits 10000 v v=true:=by
 obtain ⟨cs,hc,hf⟩:=dL h
 cases hs:s.agg with
 |true=>
  rw [cS hs hc]
  simp only [sameBits,beq_self_eq_true,Bool.true_and]
  rw [all_eq_true]
  have key:∀(ks:List CK) (cs:List Value),bk ks cs=true→∀x∈cs.zip cs,sameBits 9999 x.1 x.2=true:=by
   intro ks
   induction ks with
   |nil=>intro cs hf x hx;cases cs<;>simp [bk] at hf;simp at hx
   |cons k ks ih=>
    intro cs hf x hx
    cases cs with
    |nil=>simp at hx
    |cons c cs=>
     simp only [bk,and_eq_true] at hf
     simp only [List.zip_cons_cons,mem_cons] at hx
     rcases hx with rfl | hx
     ·exact rX hf.1 _
     ·exact ih cs hf.2 x hx
  exact key s.ks cs hf
 |false=>
  unfold KS.cells at hc
  rw [hs] at hc
  cases v<;>simp at hc<;>subst hc<;>(match hk:s.ks,hf with
   |[c],hf=>simp only [bk,Bool.and_true] at hf;exact rX hf _
   |[],hf=>simp [bk] at hf
   |_::_::_,hf=>simp [bk] at hf)
theorem oV {k:Value}{sh:KS}(hk:sh.fits k=true)(v:TV)(ck:Nat):∀{es:List (Value × TV × Nat)},(∀e∈es,sh.fits e.1=true)→
  (cI k v ck es).map (·.1)=(match dj k es with | some _=>es.map (·.1) | none=>es.map (·.1)++ [k])
 |[],_=>rfl
 |e::es,h=>by
  simp only [cI,dj]
  cases hq:aq k e.1 with
  |true=>
   have:=(ce hk (h e (by simp))).1 hq
   simp [this]
  |false=>
   simp only [cond_false,map_cons]
   rw [oV hk v ck λe' he'=>h e' (by simp [he'])]
   cases dj k es<;>simp
theorem sv {k:Value}{sh:KS}(hk:sh.fits k=true):∀{es:List (Value × TV × Nat)},(∀e∈es,sh.fits e.1=true)→(dj k es=none ↔ k∉es.map (·.1))
 |[],_=>by simp [dj]
 |e::es,h=>by
  simp only [dj]
  have h1:=ce hk (h e (by simp))
  cases hq:aq k e.1 with
  |true=>simp [h1.1 hq]
  |false=>
   simp only [cond_false,map_cons,mem_cons,not_or]
   rw [sv hk λe' he'=>h e' (by simp [he'])]
   exact ⟨λh2=>⟨λh3=>(by rw [h1.2 h3] at hq;cases hq),h2⟩,λh2=>h2.2⟩
theorem oW {k k':Value}{sh:KS}(hk:sh.fits k=true)(hk':sh.fits k'=true)(v:TV)(ck:Nat):∀{es:List (Value × TV × Nat)},(∀e∈es,sh.fits e.1=true)→
  dj k' (cI k v ck es)=(bif aq k k' then some v else dj k' es)
 |[],_=>by
  simp only [cI,dj]
  have h1:=ce hk hk'
  have h2:=ce hk' hk
  cases hq:aq k k' with
  |true=>rw [h2.2 (h1.1 hq).symm]
  |false=>
   have:aq k' k=false:=by
    cases hp:aq k' k with
    |false=>rfl
    |true=>rw [h1.2 (h2.1 hp).symm] at hq;cases hq
   rw [this]
 |e::es,h=>by
  have he:=h e (by simp)
  have h1:=ce hk hk'
  have h2:=ce hk' hk
  have h3:=ce hk he
  have h4:=ce hk' he
  have ih:=oW hk hk' v ck (es:=es) λe' he'=>h e' (by simp [he'])
  simp only [cI]
  cases hq:aq k e.1 with
  |true=>
   simp only [cond_true,dj]
   have e1:=h3.1 hq
   cases hp:aq k k' with
   |true=>rw [h2.2 (h1.1 hp).symm];rfl
   |false=>
    have:aq k' k=false:=by
     cases hr:aq k' k with
     |false=>rfl
     |true=>rw [h1.2 (h2.1 hr).symm] at hp;cases hp
    rw [this,←e1,this];rfl
  |false=>
   simp only [cond_false,dj]
   cases hp:aq k' e.1 with
   |true=>
    simp only [cond_true]
    cases hr:aq k k' with
    |false=>rfl
    |true=>rw [h1.1 hr,hp] at hq;cases hq
   |false=>simp only [cond_false];exact ih
theorem sw {k:Value}{sh:KS}(hk:sh.fits k=true)(v:TV)(ck:Nat){es:List (Value × TV × Nat)}(h:∀e∈es,sh.fits e.1=true):∀e∈cI k v ck es,sh.fits e.1=true:=by
 have h1:=oV hk v ck h
 intro e he
 have:e.1∈(cI k v ck es).map (·.1):=mem_map_of_mem he
 rw [h1] at this
 split at this
 ·obtain ⟨e',he',heq⟩:=mem_map.1 this
  rw [←heq];exact h e' he'
 ·rcases mem_append.1 this with h2 | h2
  ·obtain ⟨e',he',heq⟩:=mem_map.1 h2
   rw [←heq];exact h e' he'
  ·simp at h2;rw [h2];exact hk
theorem ni {k:Value}{sh:KS}(hk:sh.fits k=true)(v:TV)(ck:Nat){es:List (Value × TV × Nat)}(h:∀e∈es,sh.fits e.1=true)(hn:(es.map (·.1)).Nodup):((cI k v ck es).map (·.1)).Nodup:=by
 rw [oV hk v ck h]
 split
 ·exact hn
 ·rename_i hm
  have:=(sv hk h).1 hm
  rw [List.nodup_append]
  refine ⟨hn,by simp,λa ha b hb=> ?_⟩
  simp at hb;subst hb
  rintro rfl
  exact this ha
end
section
variable {P:Program}{g:Gh}{T:VT}{w:World}
def uu (P:Program)(ro:Nat)(T:VT)(t:TypeId)(m k v:TV):Option (TV × VT):=match P.underlying t,cL k,m with
 |some (.map kt _),some kv,.map id=>match dq P kt,T.objs[id]? with
  |some sh,some (.map sh' look es ck)=>bif j6 sh sh' &&sh.fits kv&&ble ro id then
    some (.val undef,{T with objs:=T.objs.set id (.map sh (λk'=>bif aq kv k' then some v else look k') (cI kv v ck es) (match look kv with | some _=>ck | none=>ck+1))}) else none
  |_,_=>none
 |_,_,_=>none
theorem kB {w:World}{b:Nat}{ms ms':Array MapEntry}{ck ck':Nat}(h:w.heap[b]?=some (.map ms ck)):
  let w':World:={w with heap:=w.heap.setIfInBounds b (.map ms' ck')}
  w'.heap[b]?=some (.map ms' ck')∧(∀c,c≠b→w'.heap[c]?=w.heap[c]?)∧w'.heap.size=w.heap.size∧bI w' b=bI w b:=by
 have h1:=Go.MapKept.heap_set (w:=w) (o':=.map ms' ck') h
 refine ⟨h1.1,λc hc=>h1.2 c hc,by simp,?_⟩
 unfold bI
 simp only [h1.1,h]
theorem yH {k:Value}(v:TV)(ck:Nat):∀{es:List (Value × TV × Nat)} (j:Nat) e,es[j]?=some e→aq k e.1=true→(∀j',j' <j→∀e,es[j']?=some e→aq k e.1=false)→
  cI k v ck es=es.set j (k,v,e.2.2)
 |[],_,_,h,_,_=>by simp at h
 |e0::es,0,e,h,hq,_=>by
  simp at h;subst h
  simp [cI,hq]
 |e0::es,j+1,e,h,hq,hb=>by
  have h0:=hb 0 (by omega) e0 rfl
  simp only [cI,h0,cond_false,List.set_cons_succ]
  rw [yH v ck j e (by simpa using h) hq λj' hj e' he'=>hb (j' +1) (by omega) e' (by simpa using he')]
theorem j7 {k:Value}(v:TV)(ck:Nat):∀{es:List (Value × TV × Nat)},dj k es=none→cI k v ck es=es++ [(k,v,ck)]
 |[],_=>rfl
 |e::es,h=>by
  simp only [dj] at h
  cases hq:aq k e.1 with
  |true=>rw [hq] at h;cases h
  |false=>
   rw [hq] at h
   simp only [cI,hq,cond_false,List.cons_append]
   rw [j7 v ck h]
theorem wQ (r:RW g T w){ro:Nat}{t:TypeId}{m k v y:TV}{um uk uv:Value}{T':VT}(h:uu P ro T t m k v=some (y,T'))(hm:VR g w m um)(hk:VR g w k uk)(hv:VR g w v uv):
  ∃g' w',(Instr.mapUpdate t um uk uv).run P w=.ok () w'∧VR g' w' y undef∧Evo g w g' w'∧RW g' T' w'∧Fix ro g T w T' w':=by
 unfold uu at h
 split at h
 ·rename_i kt et kv id hu hkv
  have hkv':=cE hkv hk
  subst hkv'
  split at h
  ·rename_i sh sh' look es ck hsh hid
   cases hb:(j6 sh sh' &&sh.fits uk&&ble ro id) with
   |false=>rw [hb] at h;cases h
   |true=>
    rw [hb] at h
    simp only [and_eq_true] at hb
    obtain ⟨⟨hq,hf⟩,hr⟩:=hb
    have hr:=le_of_ble_eq_true hr
    have:=ut hq
    subst this
    injection h with h;injection h with e1 e2;subst e1 e2
    obtain ⟨b,hb,rfl⟩:=hm.map_inv
    obtain ⟨b',h1,⟨ms,h2,h3,h4,h5,h6,h7,h8⟩,_⟩:=r.obj id _ hid rfl
    rw [hb] at h1;injection h1 with h1;subst h1
    have hfit:∀e∈ms.toList,sh.fits e.key=true:=λe he=>by
     have:e.key∈ms.toList.map (·.key):=mem_map_of_mem he
     rw [h3] at this
     obtain ⟨e',he',heq⟩:=mem_map.1 this
     rw [←heq];exact h6 e' he'
    have hfk:=jv hsh hf w ms.toList hfit
    have hgo:(getObj b).run P w=.ok (.map ms ck) w:=by simp [getObj,Sem.run,h2]
    have fin:∀(ms':Array MapEntry) (ck':Nat),(Instr.mapUpdate t (.map (some b)) uk uv).run P w=.ok () {w with heap:=w.heap.setIfInBounds b (.map ms' ck')}→
      ck'=(match look uk with | some _=>ck | none=>ck+1)→
      ms'.toList.map (·.key)=(cI uk v ck es).map (·.1)→VRs g w ((cI uk v ck es).map (·.2.1)) (ms'.toList.map (·.val))→ms'.toList.map (·.born)=(cI uk v ck es).map (·.2.2)→
      ∃g' w',(Instr.mapUpdate t (.map (some b)) uk uv).run P w=.ok () w'∧VR g' w' (.val undef) undef∧Evo g w g' w'∧
       RW g' {T with objs:=T.objs.set id (.map sh (λk'=>bif aq uk k' then some v else look k') (cI uk v ck es) (match look uk with | some _=>ck | none=>ck+1))} w'∧
       Fix ro g T w {T with objs:=T.objs.set id (.map sh (λk'=>bif aq uk k' then some v else look k') (cI uk v ck es) (match look uk with | some _=>ck | none=>ck+1))} w':=by
     intro ms' ck' hrun hck p1 p2 p3
     obtain ⟨w1,w2,w3,w4⟩:=kB (w:=w) (ms':=ms') (ck':=ck') h2
     obtain ⟨_,e0⟩:=r.setObj hid rfl hb (o':=.gone) (w':={w with heap:=w.heap.setIfInBounds b (.map ms' ck')}) ⟨rfl,rfl,rfl⟩ w3 w2 w4 (λh=>by cases h)
     obtain ⟨r',e'⟩:=r.setObj hid rfl hb (o':=.map sh (λk'=>bif aq uk k' then some v else look k') (cI uk v ck es) (match look uk with | some _=>ck | none=>ck+1)) (w':={w with heap:=w.heap.setIfInBounds b (.map ms' ck')}) ⟨rfl,rfl,rfl⟩ w3 w2 w4
      (λ_=>⟨ms',by rw [←hck];exact w1,p1,p2.mono e0,p3,sw hf v ck h6,ni hf v ck h6 h7,λk' hk'=>by
       simp only [oW hf hk' v ck h6,h8 k' hk']⟩)
     exact ⟨g,_,hrun,.val _,e',r',df r hid rfl hb hr w2⟩
    rcases pZ (k:=uk) 0 h3 h4 with ⟨g1,g2⟩ | ⟨x,j,v0,g1,g2,g3,⟨e,me,k1,k2,k3,k4,k5,k6⟩,k7⟩
    ·rw [g2] at hfk
     refine fin (ms.push {key:=uk,val:=uv,born:=ck}) (ck+1) ?_ (by rw [h8 uk hf,g1]) ?_ ?_ ?_
     ·simp [Instr.mapUpdate,run_underlying hu,hgo,dK hsh hf,hfk,Go.MapKept.run_setObj_map _ h2]
     ·rw [j7 v ck g1];simp [h3]
     ·rw [j7 v ck g1]
      have:=h4.app (.cons hv (.nil g w))
      simpa using this
     ·rw [j7 v ck g1];simp [h5]
    ·rw [g2] at hfk
     have hje:j<es.length:=(List.getElem?_eq_some_iff.1 k1).1
     have hjm:j<ms.size:=by have:=(List.getElem?_eq_some_iff.1 k2).1;simpa using this
     have hkey:me.key=uk:=by rw [k4];exact ((ce hf (h6 e (mem_of_getElem? k1))).1 k3).symm
     have hmj:ms[j]?=some me:=by simpa using k2
     have hset:=yH (k:=uk) v ck j e k1 k3 k7
     have hml:(ms.modify j λe=>{e with key:=uk,val:=uv}).toList=ms.toList.set j {me with key:=uk,val:=uv}:=by
      apply ext_getElem?
      intro i
      rw [getElem?_toList,getElem?_modify,getElem?_set]
      by_cases hij:j=i
      ·subst hij
       rw [if_pos rfl,if_pos rfl,hmj]
       simp [hjm]
      ·rw [if_neg hij,if_neg hij];simp
     refine fin (ms.modify j λe=>{e with key:=uk,val:=uv}) ck ?_ (by rw [h8 uk hf,g1]) ?_ ?_ ?_
     ·have hst:(keyThatStays (((ms[j]?).map (·.key)).getD uk) uk).run P w=.ok uk w:=by
       rw [hmj]
       simp only [map_some,Option.getD_some,hkey,keyThatStays,rY hf,if_true,run_pure]
      simp only [zero_add] at hfk
      simp [Instr.mapUpdate,run_underlying hu,hgo,dK hsh hf,hfk,hst,Go.MapKept.run_setObj_map _ h2]
     ·rw [hml,hset,map_set,map_set,h3]
     ·rw [hml,hset,map_set,map_set]
      exact h4.set j hv
     ·rw [hml,hset,map_set,map_set,h5]
      have:e.2.2=me.born:=by
       have h9:=congrArg (·[j]?) h5
       simp only [getElem?_map,k1,k2,map_some,Option.some.injEq] at h9
       exact h9.symm
      rw [this]
  ·cases h
 ·cases h
def lE (P:Program)(T:VT)(t:TypeId)(r:Option TV):Option (TV × VT):=match P.underlying t with
 |some (.map kt _)=>match dq P kt with
  |some sh=>(match r with
   |none=>some (.map T.objs.length,{T with objs:=T.objs++ [.map sh (λ_=>none) [] 0]})
   |some (.val (.int _ _))=>some (.map T.objs.length,{T with objs:=T.objs++ [.map sh (λ_=>none) [] 0]})
   |_=>none)
  |none=>none
 |_=>none
theorem D6 (r:RW g T w){t:TypeId}{x:Option TV}{u:Option Value}{y:TV}{T':VT}(h:lE P T t x=some (y,T'))(hx:BR g w x u):Does P g T w (Instr.makeMap t u) y T'∧T'.objs.take T.objs.length=T.objs:=by
 unfold lE at h
 split at h
 ·rename_i kt et hu
  split at h
  ·rename_i sh hsh
   have go:∀(hrun:(Instr.makeMap t u).run P w=.ok (.map (some w.heap.size)) (w.alloc (.map #[] 0))),Does P g T w (Instr.makeMap t u) (.map T.objs.length) {T with objs:=T.objs++ [.map sh (λ_=>none) [] 0]}:=by
    intro hrun
    have hor:OR g (w.alloc (.map #[] 0)) w.heap.size (.map sh (λ_=>none) [] 0):=
     ⟨#[],heap_alloc_new w _,by simp,by simpa using VRs.nil g _,by simp,by simp,by simp,λk _=>rfl⟩
    obtain ⟨g',r',e',hg,_⟩:=r.new (.map #[] 0) (o:=.map sh (λ_=>none) [] 0) rfl hor
    exact ⟨_,g',_,hrun,.map hg,e',r',Same.of_gr r ((Gr.refl w).alloc _)⟩
   split at h
   ·injection h with h;injection h with e1 e2;subst e1 e2
    cases u with
    |some _=>cases hx
    |none=>exact ⟨go (by simp [Instr.makeMap,newObj,Sem.run]),by simp⟩
   ·injection h with h;injection h with e1 e2;subst e1 e2
    cases u with
    |none=>cases hx
    |some u=>
     rw [VR.val_inv hx]
     exact ⟨(by rw [VR.val_inv hx] at go;exact go (by simp [Instr.makeMap,run_underlying hu,asInt,asIntOf,newObj,Sem.run])),by simp⟩
   ·cases h
  ·cases h
 ·cases h
end
section
variable {P:Program}{g:Gh}{T:VT}{w:World}
theorem BF {z:Value}(hz1:∀u∈z.cells.toList,u.oneCell'=true)(n:Nat):∀u∈(zeroCells z.cells n).toList,u.oneCell'=true:=by
 intro u hu
 rw [mem_toList_iff] at hu
 obtain ⟨j,hj,rfl⟩:=getElem_of_mem hu
 rw [size_zeroCells] at hj
 have hzp:0<z.cells.size:=by
  rcases Nat.eq_zero_or_pos z.cells.size with h0 | h0
  ·rw [h0,Nat.mul_zero] at hj;omega
  ·exact h0
 have:(zeroCells z.cells n)[j]'(by rw [size_zeroCells];exact hj)=z.cells[j%z.cells.size]'(mod_lt _ hzp):=by
  simp only [zeroCells,getElem_map,getElem_range]
  exact getElem!_pos z.cells (j%z.cells.size) (mod_lt _ hzp)
 rw [this]
 exact hz1 _ (mem_toList_iff.2 (getElem_mem _))
theorem H2 (r:RW g T w){t tn ty e:TypeId}{i:TypeInfo}{z:Value}{kq kn:IntKind}(ht:P.underlying t=some (.slice e))(htn:P.underlying tn=some (.int kn))(hi:P.info? e=some i)(hz:i.zero=some z)(hzs:z.cells.size=i.size)
  (hz1:∀u∈z.cells.toList,u.oneCell'=true) {k:Nat} (h0:0<k) (hs:0<i.size) (hb:k*(i.bytes+1)≤140737488355328):
  ∃u g' w',(append_ #[t,tn] ty #[.slice none 0 0,.int kq k]).run P w=.ok u w'∧VR g' w' (.row i.size T.objs.length 0 k) u∧Evo g w g' w'∧RW g' (T.newRow ((zeroCells z.cells k).toList.map .val)) w'∧Gr w w':=by
 rw [Nat.mul_add,mul_one] at hb
 have hrun:=Go.Lib.run_append_grow_zeros (P:=P) w t tn ty e i z kq kn ht htn hi hz none 0 0 [] (run_firstCells_none w.drew i.size 0 0 0) k h0 hs (by omega) (by omega) (by omega) (growslice_fits (bytes:=i.bytes) (by omega) (by rw [zero_add];omega))
 simp only [zero_add] at hrun
 have hge:=grownCap_ge w k 0 e
 have hle:=grownCap_le_maxLen w k 0 e (by unfold maxLen;omega)
 generalize hcap:grownCap w k 0 e=cap at hrun hge hle
 have e0:((#[]:Array Value)++zeroCells z.cells k++zeroCells z.cells (cap-k))=((zeroCells z.cells k).toList++(zeroCells z.cells (cap-k)).toList).toArray:=by
  apply ext'
  simp
 have hxs:((zeroCells z.cells k).toList++(zeroCells z.cells (cap-k)).toList).toArray.size=cap*i.size:=by
  simp only [size_toArray,List.length_append,length_toList,size_zeroCells,hzs,Nat.sub_mul]
  have:k*i.size≤cap*i.size:=Nat.mul_le_mul_right _ hge
  omega
 rw [show ([]:List Value).toArray= #[] from rfl,e0] at hrun
 have hgr:Gr w (w.drew.alloc (.cells ((zeroCells z.cells k).toList++(zeroCells z.cells (cap-k)).toList).toArray e)):=(Gr.refl w).drew.alloc _
 have hnew:(w.drew.alloc (.cells ((zeroCells z.cells k).toList++(zeroCells z.cells (cap-k)).toList).toArray e)).heap[w.heap.size]?=some (.cells ((zeroCells z.cells k).toList++(zeroCells z.cells (cap-k)).toList).toArray e):=heap_alloc_new w.drew _
 generalize w.drew.alloc (.cells ((zeroCells z.cells k).toList++(zeroCells z.cells (cap-k)).toList).toArray e)=w' at*
 have e1:=Evo.of_gr r hgr
 have ro:OR g w' w.heap.size (.row ((zeroCells z.cells k).toList.map .val)):=by
  refine ⟨_,e,hnew,?_,?_,?_⟩
  ·simp
  ·rw [length_map,take_left']
   ·exact VRs.vals g w' _
   ·rfl
  ·intro u hu
   rcases mem_append.1 (mem_of_mem_take hu) with hu | hu
   ·exact BF hz1 _ u hu
   ·exact BF hz1 _ u hu
 have r1:=(r.gr hgr).addObj (r.fresh (le_refl _)) (o:=.row ((zeroCells z.cells k).toList.map .val)) rfl ro
 have e2:=e1.trans (Evo.addObj (w:=w') (b:=w.heap.size) (r.out T.objs.length (le_refl _)))
 have hlt:w.heap.size<w'.heap.size:=(Array.getElem?_eq_some_iff.1 hnew).1
 have hcz:bI w' w.heap.size=cap*i.size:=by rw [bG hnew];exact hxs
 refine ⟨_,_,_,hrun,?_,e2,r1,hgr⟩
 have:=VR.row (g:=g.addObj T.objs.length w.heap.size) (w:=w') (size:=i.size) (id:=T.objs.length) (off:=0) (n:=k) (b:=w.heap.size) (c:=cap) (by simp [Gh.addObj]) hlt hge hle (by rw [hcz,zero_add])
 rw [zero_mul] at this
 exact this
def wR (P:Program)(T:VT)(t tx:TypeId)(s x:TV):Option (TV × VT):=match P.underlying t,P.underlying tx,s,x with
 |some (.slice e),some (.int _),.val (.slice none 0 0),.val (.int _ l)=>match P.info? e with
  |some i=>match i.zero with
   |some z=>bif decide (0<l)&&ble (l.toNat*(i.bytes+1)) 140737488355328&&decide (z.cells.size=i.size)&&decide (0<i.size)&&z.cells.toList.all oneCell' then
     some (.row i.size T.objs.length 0 l.toNat,T.newRow ((zeroCells z.cells l.toNat).toList.map .val)) else none
   |none=>none
  |none=>none
 |_,_,_,_=>none
theorem KH (r:RW g T w){ro:Nat}{t tx ty:TypeId}{s x y:TV}{us ux:Value}{T':VT}(h:wR P T t tx s x=some (y,T'))(hs:VR g w s us)(hx:VR g w x ux):
  ∃u g' w',(append_ #[t,tx] ty #[us,ux]).run P w=.ok u w'∧VR g' w' y u∧Evo g w g' w'∧RW g' T' w'∧Fix ro g T w T' w':=by
 unfold wR at h
 split at h
 ·rename_i e kn kq l ht htn
  split at h
  ·rename_i i hi
   split at h
   ·rename_i z hz
    cases hb:(decide (0<l)&&ble (l.toNat*(i.bytes+1)) 140737488355328&&decide (z.cells.size=i.size)&&decide (0<i.size)&&z.cells.toList.all oneCell') with
    |false=>rw [hb] at h;cases h
    |true=>
     rw [hb] at h
     simp only [and_eq_true,decide_eq_true_eq] at hb
     obtain ⟨⟨⟨⟨b1,b2⟩,b3⟩,b4⟩,b5⟩:=hb
     injection h with h;injection h with h1 h2;subst h1 h2
     rw [hs.val_inv,hx.val_inv]
     have hl:l=((l.toNat:Nat):Int):=by omega
     obtain ⟨u,g',w',e1,e2,e3,e4,e5⟩:=H2 (ty:=ty) (kq:=kq) r ht htn hi hz b3 (all_eq_true.1 b5) (k:=l.toNat) (by omega) b4 (le_of_ble_eq_true b2)
     rw [←hl] at e1
     exact ⟨u,g',w',e1,e2,e3,e4,Fix.of_same (Same.of_gr r e5) (ga _ _)⟩
   ·cases h
  ·cases h
 ·cases h
end
section
variable {P:Program}{g:Gh}{T:VT}{w:World}
theorem sx {t:TypeId}{i:TypeInfo}(hi:P.info? t=some i)(h1:i.size=1){a:Addr}{k:IntKind}{n:Int}{w':World}{v0:Value}(hc:w.cell? a=some v0)(h:(storeAt t (.pointer (some a)) (.int k n)).run P w=.ok () w'):(store a (.int k n) .atomic).run P w=.ok () w':=by
 simp [storeAt,sureAddr,storeVar,run_bind,bH hi,h1,storeCells,Value.cells] at h
 have e:a.add 0=a:=by cases a;simp [Addr.add]
 simp only [store,Sem.run,e,hc] at h ⊢
 exact h
theorem FU {fn:Func}(h:fn.name= "sync/atomic.AddInt64"):find fn=some (Extern.Atomic.update (Op.intArith .add) .i64 true):=by
 unfold find
 simp only [h]
 rw [show (allGenericRows.lookup "sync/atomic.AddInt64")=none by kernel_rfl,show (allTypedRows.lookup "sync/atomic.AddInt64")=none by kernel_rfl,show (allRows.lookup "sync/atomic.AddInt64")=some (Extern.Atomic.update (Op.intArith .add) .i64 true) by kernel_rfl]
 rfl
theorem BG {fn:Func}(h:fn.name= "sync/atomic.StoreInt64"):find fn=some Extern.Atomic.storeT:=by
 unfold find
 simp only [h]
 rw [show (allGenericRows.lookup "sync/atomic.StoreInt64")=none by kernel_rfl,show (allTypedRows.lookup "sync/atomic.StoreInt64")=none by kernel_rfl,show (allRows.lookup "sync/atomic.StoreInt64")=some Extern.Atomic.storeT by kernel_rfl]
 rfl
theorem D7 {fn:Func}(h:fn.name= "sync/atomic.LoadInt64"):find fn=some (Extern.Atomic.loadT (.int .i64)):=by
 unfold find
 simp only [h]
 rw [show (allGenericRows.lookup "sync/atomic.LoadInt64")=none by kernel_rfl,show (allTypedRows.lookup "sync/atomic.LoadInt64")=none by kernel_rfl,show (allRows.lookup "sync/atomic.LoadInt64")=some (Extern.Atomic.loadT (.int .i64)) by kernel_rfl]
 rfl
theorem D8 {fn:Func}(h:fn.name= "sync/atomic.LoadUint32"):find fn=some (Extern.Atomic.loadT (.int .u32)):=by
 unfold find
 simp only [h]
 rw [show (allGenericRows.lookup "sync/atomic.LoadUint32")=none by kernel_rfl,show (allTypedRows.lookup "sync/atomic.LoadUint32")=none by kernel_rfl,show (allRows.lookup "sync/atomic.LoadUint32")=some (Extern.Atomic.loadT (.int .u32)) by kernel_rfl]
 rfl
theorem FV {fn:Func}(h:fn.name= "maps.clone"):find fn=some Extern.MapsClone.clone:=by
 unfold find
 simp only [h]
 rw [show (allGenericRows.lookup "maps.clone")=none by kernel_rfl,show (allTypedRows.lookup "maps.clone")=none by kernel_rfl,show (allRows.lookup "maps.clone")=some Extern.MapsClone.clone by kernel_rfl]
 rfl
theorem BH {r:Nat}{es:Array MapEntry}{clock:Nat}(t:TypeId)(hb:w.heap[r]?=some (.map es clock)):
  (Extern.MapsClone.clone [.iface t (.map (some r))].toArray).run P w=.ok (.iface t (.map (some w.heap.size))) (w.alloc (.map es clock)):=by
 have e:Extern.MapsClone.clone [.iface t (.map (some r))].toArray=(getObj r>>=λo=>match o with
   | .map entries clock=>(newObj (.map entries clock)>>=λn=>pure (.iface t (.map (some n))))
   |_=>stuck "maps.clone: a map expected"):=rfl
 have h1:(getObj r).run P w=.ok (.map es clock) w:=by simp [getObj,Sem.run,hb]
 rw [e,run_bind,h1]
 simp [newObj,Sem.run,andThen]
def uw (T:VT)(p:TV):Option TV:=match p with
 | .ptr id off=>match T.objs[id]? with
  |some (.cells cs)=>cs[off]?
  |_=>none
 | .elt (c::_)=>some c
 |_=>none
theorem qT (r:RW g T w){p y:TV}{u:Value}(h:uw T p=some y)(hp:VR g w p u):∃a v,u=.pointer (some a)∧w.cell? a=some v∧VR g w y v∧∀w',Same g T w w'→w'.cell? a=some v:=by
 unfold uw at h
 split at h
 ·rename_i id off
  split at h
  ·rename_i cs hid
   obtain ⟨b,hb,rfl⟩:=hp.ptr_inv
   obtain ⟨b',h4,⟨us,ty,h5,h6,h7⟩,_⟩:=r.obj id _ hid rfl
   rw [hb] at h4;injection h4 with h4;subst h4
   obtain ⟨v,hv,hvr⟩:=h6.at h
   have hc:∀w':World,w'.heap[b]?=w.heap[b]?→w'.cell? ⟨b,off,none⟩=some v:=λw' hh=>by
    unfold cell?
    simp only [hh,h5]
    simpa using hv
   exact ⟨_,v,rfl,hc w rfl,hvr,λw' hs=>hc w' (hs.obj id _ b hid rfl hb)⟩
  ·cases h
 ·rename_i c cs
  injection h with h;subst h
  obtain ⟨b,o,us,rfl,h1,h2,h3,h4⟩:=hp.elt_inv
  obtain ⟨v,hv,hvr⟩:=h1.at (j:=0) (x:=c) rfl
  have h5:=h3 0 v hv
  exact ⟨_,v,rfl,h5,hvr,λw' hs=>(hs.st b o (h2 0 (by simp))).trans h5⟩
 ·cases h
def KI (P:Program)(ro:Nat)(T:VT)(fn:Func)(xs:List TV):Option (TV × VT):=
 bif (findNext fn).isNone&&fn.body.isNone then
  bif fn.name== "sync/atomic.LoadInt64" then (match xs with
   |[p]=>match uw T p with
    |some (.val (.int .i64 x))=>some (.val (.int .i64 x),T)
    |_=>none
   |_=>none)
  else bif fn.name== "sync/atomic.StoreInt64" then (match xs,fn.params.toList with
   |[.ptr id off,.val (.int k y)],[_,t]=>match uw T (.ptr id off),P.info? t with
    |some _,some i=>bif beq i.size 1&&ble ro id then (match kU P T t (.ptr id off) (.val (.int k y)) with
     |some (_,T')=>some (.val (.tuple #[]),T')
     |none=>none) else none
    |_,_=>none
   |_,_=>none)
  else bif fn.name== "sync/atomic.AddInt64" then (match xs,fn.params.toList with
   |[.ptr id off,.val (.int _ y)],[_,t]=>match uw T (.ptr id off),P.info? t with
    |some (.val (.int .i64 x)),some i=>bif beq i.size 1&&ble ro id then (match kU P T t (.ptr id off) (.val (.int .i64 (i64.wrap (x+y)))) with
     |some (_,T')=>some (.val (.int .i64 (i64.wrap (x+y))),T')
     |none=>none) else none
    |_,_=>none
   |_,_=>none)
  else bif fn.name== "sync/atomic.LoadUint32" then (match xs with
   |[p]=>match uw T p with
    |some (.val (.int .u32 x))=>some (.val (.int .u32 x),T)
    |_=>none
   |_=>none)
  else bif fn.name== "maps.clone" then (match xs with
   |[.ifc t (.map id)]=>match T.objs[id]? with
    |some (.map sh look es ck)=>some (.ifc t (.map T.objs.length),{T with objs:=T.objs++ [.map sh look es ck]})
    |_=>none
   |_=>none)
  else none
 else none
theorem BI (t:Extern.Atomic.T)(x:Value):Extern.Atomic.loadT t [x].toArray=(do Extern.Atomic.read t (←asAddr x)):=rfl
theorem H3 (x y:Value):Extern.Atomic.storeT [x,y].toArray=(do store (←asAddr x) y .atomic;pure Extern.Atomic.none_):=rfl
theorem H4 (op:IntKind→Int→Int→Sem Value)(k:IntKind)(b:Bool)(x y:Value):Extern.Atomic.update op k b [x,y].toArray=(do
 let a ←asAddr x
 let old ←Extern.Atomic.read (.int k) a
 let new ←op k (←asInt old) (←asInt y)
 store a new .atomic
 pure (if b then new else old)):=rfl
theorem iU {f:FuncId}{fn:Func}{e:Array Value→Sem Value}(hfn:P.funcs[f]?=some fn)(hnm:fn.name≠ "runtime.NumGoroutine")(hb:fn.body=none)(hn:findNext fn=none)(he:find fn=some e){args:Array Value}{v:Value}{w':World}(h:(e args).run P w=.ok v w'):
  (callFunc f args).run P w=.ok (.value v) w':=by
 simp [callFunc,hfn,hnm,hb,hn,he,mark,Sem.run,run_bind,h,andThen]
theorem NR (r:RW g T w){ro:Nat}{f:FuncId}{fn:Func}{xs:List TV}{us:List Value}{y:TV}{T':VT}(hfn:P.funcs[f]?=some fn)(h:KI P ro T fn xs=some (y,T'))(hx:VRs g w xs us):
  ∃v g' w',(callFunc f us.toArray).run P w=.ok (.value v) w'∧VR g' w' y v∧Evo g w g' w'∧RW g' T' w'∧Fix ro g T w T' w':=by
 unfold KI at h
 cases hb:((findNext fn).isNone&&fn.body.isNone) with
 |false=>rw [hb] at h;cases h
 |true=>
  rw [hb] at h
  simp only [and_eq_true,Option.isNone_iff_eq_none] at hb
  obtain ⟨hn,hbody⟩:=hb
  simp only [cond_true] at h
  cases h1:(fn.name== "sync/atomic.LoadInt64") with
  |true=>
   rw [h1] at h
   have h1:fn.name= "sync/atomic.LoadInt64" :=by simpa using h1
   simp only [cond_true] at h
   split at h
   ·rename_i p
    split at h
    ·rename_i x hc
     injection h with h;injection h with e1 e2;subst e1 e2
     match us,hx with
     |[u],hx=>
      obtain ⟨a,v,hu,hw,hv,_⟩:=qT r hc (hx.2 0 p u rfl rfl)
      have hv:=hv.val_inv
      subst hu hv
      refine ⟨_,g,w,iU hfn (by rw [h1];decide) hbody hn (D7 h1) (v:=.int .i64 x) (w':=w) ?_,.val _,Evo.refl _ _,r,Fix.refl _ _ _ _⟩
      rw [BI]
      simp [Extern.Atomic.read,asAddr,load,Sem.run,run_bind,hw,andThen]
     |[],hx=>have:=hx.1;simp at this
     |_::_::_,hx=>have:=hx.1;simp at this
    ·cases h
   ·cases h
  |false=>
   rw [h1] at h
   simp only [cond_false] at h
   cases h2:(fn.name== "sync/atomic.StoreInt64") with
   |true=>
    rw [h2] at h
    have h2:fn.name= "sync/atomic.StoreInt64" :=by simpa using h2
    simp only [cond_true] at h
    split at h
    ·rename_i id off k z t0 t hps
     split at h
     ·rename_i c i hc hi
      cases hb2:(beq i.size 1&&ble ro id) with
      |false=>rw [hb2] at h;cases h
      |true=>
       rw [hb2] at h
       simp only [and_eq_true] at hb2
       simp only [cond_true] at h
       split at h
       ·rename_i q T2 hst
        injection h with h;injection h with e1 e2;subst e1 e2
        match us,hx with
        |[u,v],hx=>
         have hp:=hx.2 0 _ u rfl rfl
         have hz:=(hx.2 1 _ v rfl rfl).val_inv
         subst hz
         obtain ⟨a,v0,hu,hw,_,_⟩:=qT r hc hp
         subst hu
         obtain ⟨g',w',k1,_,k3,k4,k5⟩:=nh (P:=P) r hst hp (.val _) (le_of_ble_eq_true hb2.2)
         have k6:=sx hi (eq_of_beq_eq_true hb2.1) hw k1
         refine ⟨_,g',w',iU hfn (by rw [h2];decide) hbody hn (BG h2) (v:=.tuple #[]) (w':=w') ?_,.val _,k3,k4,k5⟩
         rw [H3]
         simp [Extern.Atomic.none_,asAddr,k6,andThen]
        |[],hx=>have:=hx.1;simp at this
        |[_],hx=>have:=hx.1;simp at this
        |_::_::_::_,hx=>have:=hx.1;simp at this
       ·cases h
     ·cases h
    ·cases h
   |false=>
    rw [h2] at h
    simp only [cond_false] at h
    cases h3:(fn.name== "sync/atomic.AddInt64") with
    |false=>
     rw [h3] at h
     simp only [cond_false] at h
     cases h4:(fn.name== "sync/atomic.LoadUint32") with
     |true=>
      rw [h4] at h
      have h4:fn.name= "sync/atomic.LoadUint32" :=by simpa using h4
      simp only [cond_true] at h
      split at h
      ·rename_i p
       split at h
       ·rename_i x hc
        injection h with h;injection h with e1 e2;subst e1 e2
        match us,hx with
        |[u],hx=>
         obtain ⟨a,v,hu,hw,hv,_⟩:=qT r hc (hx.2 0 p u rfl rfl)
         have hv:=hv.val_inv
         subst hu hv
         refine ⟨_,g,w,iU hfn (by rw [h4];decide) hbody hn (D8 h4) (v:=.int .u32 x) (w':=w) ?_,.val _,Evo.refl _ _,r,Fix.refl _ _ _ _⟩
         rw [BI]
         simp [Extern.Atomic.read,asAddr,load,Sem.run,run_bind,hw,andThen]
        |[],hx=>have:=hx.1;simp at this
        |_::_::_,hx=>have:=hx.1;simp at this
       ·cases h
      ·cases h
     |false=>
      rw [h4] at h
      simp only [cond_false] at h
      cases h5:(fn.name== "maps.clone") with
      |false=>rw [h5] at h;cases h
      |true=>
       rw [h5] at h
       have h5:fn.name= "maps.clone" :=by simpa using h5
       simp only [cond_true] at h
       split at h
       ·rename_i t id
        split at h
        ·rename_i sh look es ck hid
         injection h with h;injection h with e1 e2;subst e1 e2
         match us,hx with
         |[u],hx=>
          obtain ⟨v,rfl,hv⟩:=(hx.2 0 _ u rfl rfl).ifc_inv
          obtain ⟨b,hb,rfl⟩:=hv.map_inv
          obtain ⟨b',hb',⟨ms,hm,k1,k2,k3,k4⟩,_,_⟩:=r.obj id _ hid rfl
          rw [hb] at hb';injection hb' with hb';subst hb'
          have ev:=Evo.of_gr r ((Gr.refl w).alloc (.map ms ck))
          have hor:OR g (w.alloc (.map ms ck)) w.heap.size (.map sh look es ck):=⟨ms,heap_alloc_new w _,k1,k2.mono ev,k3,k4⟩
          obtain ⟨g',r',e',hg,_⟩:=r.new (.map ms ck) (o:=.map sh look es ck) rfl hor
          refine ⟨_,g',_,iU hfn (by rw [h5];decide) hbody hn (FV h5) (BH (P:=P) t hm),.ifc (.map hg),e',r',Fix.of_same (Same.of_gr r ((Gr.refl w).alloc _)) (by simp)⟩
         |[],hx=>have:=hx.1;simp at this
         |_::_::_,hx=>have:=hx.1;simp at this
        ·cases h
       ·cases h
    |true=>
     rw [h3] at h
     have h3:fn.name= "sync/atomic.AddInt64" :=by simpa using h3
     simp only [cond_true] at h
     split at h
     ·rename_i id off k z t0 t hps
      split at h
      ·rename_i x i hc hi
       cases hb2:(beq i.size 1&&ble ro id) with
       |false=>rw [hb2] at h;cases h
       |true=>
        rw [hb2] at h
        simp only [and_eq_true] at hb2
        simp only [cond_true] at h
        split at h
        ·rename_i q T2 hst
         injection h with h;injection h with e1 e2;subst e1 e2
         match us,hx with
         |[u,v],hx=>
          have hp:=hx.2 0 _ u rfl rfl
          have hz:=(hx.2 1 _ v rfl rfl).val_inv
          subst hz
          obtain ⟨a,v0,hu,hw,hv0,_⟩:=qT r hc hp
          have hv0:=hv0.val_inv
          subst hu hv0
          obtain ⟨g',w',k1,_,k3,k4,k5⟩:=nh (P:=P) r hst hp (.val _) (le_of_ble_eq_true hb2.2)
          have k6:=sx hi (eq_of_beq_eq_true hb2.1) hw k1
          refine ⟨_,g',w',iU hfn (by rw [h3];decide) hbody hn (FU h3) (v:=.int .i64 (i64.wrap (x+z))) (w':=w') ?_,.val _,k3,k4,k5⟩
          have rd:(Extern.Atomic.read (.int .i64) a).run P w=.ok (.int .i64 x) w:=by
           simp [Extern.Atomic.read,load,Sem.run,run_bind,hw,andThen]
          rw [H4]
          simp [asAddr,asInt,asIntOf,Op.intArith,run_bind,rd,k6,andThen]
         |[],hx=>have:=hx.1;simp at this
         |[_],hx=>have:=hx.1;simp at this
         |_::_::_::_,hx=>have:=hx.1;simp at this
        ·cases h
      ·cases h
     ·cases h
end
section
variable {P:Program}{g:Gh}{T:VT}{w:World}
theorem H5 (r:RW g T w){ro id off b:Nat}{cs new:List TV}{vs:List Value}(hid:T.objs[id]?=some (.row cs))(hb:g.obj id=some b)(k:VRs g w new vs)(ho:∀v∈vs,v.oneCell'=true)(h2:off+new.length≤cs.length)(hr:ro≤id):
  ∃w',(storeCells ⟨b,off,none⟩ vs).run P w=.ok () w'∧Evo g w g w'∧RW g {T with objs:=T.objs.set id (.row (bs cs off new))} w'∧Fix ro g T w {T with objs:=T.objs.set id (.row (bs cs off new))} w':=by
 obtain ⟨b',h4,⟨us,ty,h5,h6,h7,h8⟩,_⟩:=r.obj id _ hid rfl
 rw [hb] at h4;injection h4 with h4;subst h4
 have hl:vs.length=new.length:=k.1
 have hrun:=run_storeCells_at (P:=P) b off ty vs 0 us.toArray w h5 (by simp at hl ⊢;omega) ho
 simp only [add_zero,hl] at hrun
 have hsr:=setRow_heap w b _ (us.take off++vs++us.drop (off+new.length)).toArray ty (0,0) h5
 have hll:(us.take off++vs++us.drop (off+new.length)).length=us.length:=by simp at hl ⊢;omega
 have hcs:bI (w.setRow b (us.take off++vs++us.drop (off+new.length)).toArray) b=bI w b:=by
  rw [bG hsr,bG h5,size_toArray,size_toArray,hll]
 have hoth:∀c,c≠b→(w.setRow b (us.take off++vs++us.drop (off+new.length)).toArray).heap[c]?=w.heap[c]?:=λc hc=>setRow_other w b c _ hc
 obtain ⟨_,e0⟩:=r.setObj hid rfl hb (o':=.gone) (w':=w.setRow b (us.take off++vs++us.drop (off+new.length)).toArray) ⟨rfl,rfl,rfl⟩ (by simp) hoth hcs (λh=>by cases h)
 have k2:=((((h7.take off).app k).app (h7.drop (off+new.length)))).mono e0
 have ht:(us.take off++vs++us.drop (off+new.length)).take (bs cs off new).length=(us.take cs.length).take off++vs++(us.take cs.length).drop (off+new.length):=by
  have hsl:(bs cs off new).length=cs.length:=by simp [bs];omega
  rw [hsl]
  apply ext_getElem?
  intro j
  rw [getElem?_take]
  have hA:(us.take off).length=off:=by simp;omega
  have hA2:((us.take cs.length).take off).length=off:=by simp;omega
  rcases lt_or_ge j cs.length with hj | hj
  ·rw [if_pos hj,append_assoc,append_assoc,getElem?_append (l₁:=us.take off),getElem?_append (l₁:=(us.take cs.length).take off),hA,hA2]
   split
   ·rename_i hjo
    simp [hjo,hj]
   ·rw [getElem?_append,getElem?_append]
    split
    ·rfl
    ·simp only [getElem?_drop,getElem?_take]
     rw [if_pos (by omega)]
  ·rw [if_neg (by omega)]
   symm
   apply List.getElem?_eq_none
   simp at hl ⊢;omega
 have o2:∀v∈(us.take off++vs++us.drop (off+new.length)).take (bs cs off new).length,v.oneCell'=true:=by
  rw [ht]
  intro v hv
  simp only [mem_append] at hv
  rcases hv with (hv | hv) | hv
  ·exact h8 v (mem_of_mem_take hv)
  ·exact ho v hv
  ·exact h8 v (mem_of_mem_drop hv)
 obtain ⟨r',e'⟩:=r.setObj hid rfl hb (o':=.row (bs cs off new)) (w':=w.setRow b (us.take off++vs++us.drop (off+new.length)).toArray) ⟨rfl,rfl,rfl⟩ (by simp) hoth hcs
  (λ_=>⟨_,ty,hsr,by rw [hll];simp [bs];omega,by rw [ht];exact k2,o2⟩)
 have hl:vs.length=new.length:=k.1
 exact ⟨_,by simpa using hrun,e',r',df r hid rfl hb hr hoth⟩
def sy (P:Program)(ro:Nat)(T:VT)(t tx:TypeId)(d x:TV):Option (TV × VT):=match P.underlying t,d with
 |some (.slice e),.row sz id off m=>match P.info? e,T.objs[id]? with
  |some i,some (.row cs)=>match bL T i.size x with
   |some es=>bif beq i.size sz&&ble es.length m&&ble (off*sz+es.flatten.length) cs.length&&ble ro id&&fD (P.underlying tx) then
     some (.val (.int .i64 es.length),{T with objs:=T.objs.set id (.row (bs cs (off*sz) es.flatten))}) else none
   |none=>none
  |_,_=>none
 |_,_=>none
theorem H6 (r:RW g T w){ro:Nat}{t tx ty:TypeId}{d x y:TV}{ud ux:Value}{T':VT}(h:sy P ro T t tx d x=some (y,T'))(hd:VR g w d ud)(hx:VR g w x ux):
  ∃u g' w',(copy_ #[t,tx] ty #[ud,ux]).run P w=.ok u w'∧VR g' w' y u∧Evo g w g' w'∧RW g' T' w'∧Fix ro g T w T' w':=by
 unfold sy at h
 split at h
 ·rename_i e sz id off m ht
  split at h
  ·rename_i i cs hi hid
   split at h
   ·rename_i es hes
    cases hb0:(beq i.size sz&&ble es.length m&&ble (off*sz+es.flatten.length) cs.length&&ble ro id&&fD (P.underlying tx)) with
    |false=>rw [hb0] at h;cases h
    |true=>
     rw [hb0] at h
     simp only [and_eq_true] at hb0
     obtain ⟨⟨⟨⟨b1,b2⟩,b3⟩,b4⟩,b5⟩:=hb0
     have b1:=eq_of_beq_eq_true b1
     subst b1
     injection h with h;injection h with e1 e2;subst e1 e2
     obtain ⟨news,sr,k2,z2⟩:=nT (P:=P) r hes hx (pW b5)
     obtain ⟨b,c,f1,f2,f3,f4,f5,rfl⟩:=hd.row_inv
     obtain ⟨w',k1,k3,k4,k5⟩:=H5 (P:=P) r hid f1 k2 sr.one (le_of_ble_eq_true b3) (le_of_ble_eq_true b4)
     have hmin:Nat.min es.length m=es.length:=min_eq_left (le_of_ble_eq_true b2)
     refine ⟨_,g,w',?_,.val _,k3,k4,k5⟩
     simp [copy_,run_underlying ht,sizeOf,typeInfo,hi,sr.len,hmin,sr.cells,k1,goInt]
   ·cases h
  ·cases h
 ·cases h
theorem KJ (r:RW g T w){ro id off b:Nat}{cs new:List TV}{vs:List Value}(hid:T.objs[id]?=some (.cells cs))(hb:g.obj id=some b)(k:VRs g w new vs)(ho:∀v∈vs,v.oneCell'=true)(h2:off+new.length≤cs.length)(hr:ro≤id):
  ∃w',(storeCells ⟨b,off,none⟩ vs).run P w=.ok () w'∧Evo g w g w'∧RW g {T with objs:=T.objs.set id (.cells (bs cs off new))} w'∧Fix ro g T w {T with objs:=T.objs.set id (.cells (bs cs off new))} w':=by
 obtain ⟨b',h4,⟨us,ty,h5,h6,h7⟩,_⟩:=r.obj id _ hid rfl
 rw [hb] at h4;injection h4 with h4;subst h4
 have hl:vs.length=new.length:=k.1
 have hus:us.length=cs.length:=h6.1
 have hrun:=run_storeCells_at (P:=P) b off ty vs 0 us.toArray w h5 (by simp at hl ⊢;omega) ho
 simp only [add_zero,hl] at hrun
 have hsr:=setRow_heap w b _ (us.take off++vs++us.drop (off+new.length)).toArray ty (0,0) h5
 have hcs:bI (w.setRow b (us.take off++vs++us.drop (off+new.length)).toArray) b=bI w b:=by
  rw [bG hsr,bG h5]
  simp at hl ⊢;omega
 have hoth:∀c,c≠b→(w.setRow b (us.take off++vs++us.drop (off+new.length)).toArray).heap[c]?=w.heap[c]?:=λc hc=>setRow_other w b c _ hc
 obtain ⟨_,e0⟩:=r.setObj hid rfl hb (o':=.gone) (w':=w.setRow b (us.take off++vs++us.drop (off+new.length)).toArray) ⟨rfl,rfl,rfl⟩ (by simp) hoth hcs (λh=>by cases h)
 have k2:=(((h6.take off).app k).app (h6.drop (off+new.length))).mono e0
 have o2:∀v∈us.take off++vs++us.drop (off+new.length),v.oneCell'=true:=by
  intro v hv
  simp only [mem_append] at hv
  rcases hv with (hv | hv) | hv
  ·exact h7 v (mem_of_mem_take hv)
  ·exact ho v hv
  ·exact h7 v (mem_of_mem_drop hv)
 obtain ⟨r',e'⟩:=r.setObj hid rfl hb (o':=.cells (bs cs off new)) (w':=w.setRow b (us.take off++vs++us.drop (off+new.length)).toArray) ⟨rfl,rfl,rfl⟩ (by simp) hoth hcs
  (λ_=>⟨_,ty,hsr,k2,o2⟩)
 exact ⟨_,by simpa using hrun,e',r',df r hid rfl hb hr hoth⟩
def sA (P:Program)(ro:Nat)(T:VT)(t tx:TypeId)(d x:TV):Option (TV × VT):=match P.underlying t,d with
 |some (.slice e),.sl id off m _=>match P.info? e,T.objs[id]? with
  |some i,some (.cells cs)=>match bL T i.size x with
   |some es=>bif ble es.length m&&ble (off+es.flatten.length) cs.length&&ble ro id&&fD (P.underlying tx) then
     some (.val (.int .i64 es.length),{T with objs:=T.objs.set id (.cells (bs cs off es.flatten))}) else none
   |none=>none
  |_,_=>none
 |_,_=>none
theorem H7 (r:RW g T w){ro:Nat}{t tx ty:TypeId}{d x y:TV}{ud ux:Value}{T':VT}(h:sA P ro T t tx d x=some (y,T'))(hd:VR g w d ud)(hx:VR g w x ux):
  ∃u g' w',(copy_ #[t,tx] ty #[ud,ux]).run P w=.ok u w'∧VR g' w' y u∧Evo g w g' w'∧RW g' T' w'∧Fix ro g T w T' w':=by
 unfold sA at h
 split at h
 ·rename_i e id off m cap ht
  split at h
  ·rename_i i cs hi hid
   split at h
   ·rename_i es hes
    cases hb0:(ble es.length m&&ble (off+es.flatten.length) cs.length&&ble ro id&&fD (P.underlying tx)) with
    |false=>rw [hb0] at h;cases h
    |true=>
     rw [hb0] at h
     simp only [and_eq_true] at hb0
     obtain ⟨⟨⟨b2,b3⟩,b4⟩,b5⟩:=hb0
     injection h with h;injection h with e1 e2;subst e1 e2
     obtain ⟨news,sr,k2,z2⟩:=nT (P:=P) r hes hx (pW b5)
     obtain ⟨b,f1,rfl⟩:=hd.sl_inv
     obtain ⟨w',k1,k3,k4,k5⟩:=KJ (P:=P) r hid f1 k2 sr.one (le_of_ble_eq_true b3) (le_of_ble_eq_true b4)
     have hmin:Nat.min es.length m=es.length:=min_eq_left (le_of_ble_eq_true b2)
     refine ⟨_,g,w',?_,.val _,k3,k4,k5⟩
     simp [copy_,run_underlying ht,sizeOf,typeInfo,hi,sr.len,hmin,sr.cells,k1,goInt]
   ·cases h
  ·cases h
 ·cases h
end
section
variable {P:Program}{g:Gh}{T:VT}{w:World}
theorem pG {isS:Bool}{len cap l h m:Nat}{hi mx:TV}{lo':Option TV}{ul:Option Value}{uh um:Value}(h1:dS lo'=some l)(h2:ek hi=some h)(h3:ek mx=some m)(hl:BR g w lo' ul)(hh:VR g w hi uh)(hm:VR g w mx um)
  (hle:l≤h) (hc:h≤m) (hmc:m≤cap) (w':World):(Instr.sliceBounds isS len cap ul (some uh) (some um)).run P w'=.ok (l,h,m) w':=by
 obtain ⟨km,hkm⟩:=qN h3 hm
 obtain ⟨kh,hkh⟩:=qN h2 hh
 have em:=oR (P:=P) (c:=if isS then BoundsCode.slice3Acap else BoundsCode.slice3Alen) hmc hkm w'
 have eh:=oR (P:=P) (c:=BoundsCode.slice3B) hc hkh w'
 have e1:=El (P:=P) (y:=h) (c:=.slice3C) h1 hl hle w'
 cases ul<;>simp_all [Instr.sliceBounds]
def gB (P:Program)(t:TypeId)(x:TV)(lo hi mx:Option TV):Option TV:=match hi,mx,P.underlying t with
 |some hv,some mv,some (.slice e)=>match P.info? e,dS lo,ek hv,ek mv with
  |some inf,some l,some h,some m=>match x with
   | .row size id off n=>bif beq inf.size size&&ble l h&&ble h m&&ble m n then (bif beq l m then some (.sl id (off*size) 0 0) else some (.sl id ((off+l)*size) (h-l) (m-l))) else none
   | .sl id off _ cap=>bif ble l h&&ble h m&&ble m cap&&ble cap 140737488355328 then (bif beq l m then some (.sl id off 0 0) else some (.sl id (off+l*inf.size) (h-l) (m-l))) else none
   | .vec size es _=>bif beq inf.size size&&ble l h&&ble h m&&ble m es.length then some (.vec size ((es.take h).drop l) .none) else none
   |_=>none
  |_,_,_,_=>none
 |_,_,_=>none
theorem FX {t:TypeId}{x y:TV}{lo hi mx:Option TV}{u:Value}{ul uh um:Option Value}(h:gB P t x lo hi mx=some y)(hx:VR g w x u)(hl:BR g w lo ul)(hh:BR g w hi uh)(hm:BR g w mx um):
  Looks0 P g w (sliceAt t u ul uh um) y:=by
 unfold gB at h
 split at h
 ·rename_i hv mv e hu
  cases uh with
  |none=>exact hh.elim
  |some uh=>
  cases um with
  |none=>exact hm.elim
  |some um=>
  split at h
  ·rename_i inf l hn m hinf h1 h2 h3
   have hrun:∀{a n c},u=.slice (some a) n c→l≤hn→hn≤m→m≤c→a.spot=none→∀w':World,(sliceAt t u ul (some uh) (some um)).run P w'=.ok (.slice (if m=l then some a else some ⟨a.block,a.off+l*inf.size,none⟩) (hn-l) (m-l)) w':=by
    intro a n c hu2 hle hc hmc hsp w'
    subst hu2
    obtain ⟨ab,ao,asp⟩:=a
    simp only at hsp;subst hsp
    have:=pG (P:=P) (isS:=true) (len:=n) (cap:=c) h1 h2 h3 hl hh hm hle hc hmc w'
    simp only [sliceAt,Instr.slice,run_bind,run_underlying hu,andThen_ok,this,bH hinf,run_pure,map_some,Addr.add_none]
   split at h
   ·rename_i size id off n
    cases hb:(beq inf.size size&&ble l hn&&ble hn m&&ble m n) with
    |false=>rw [hb] at h;cases h
    |true=>
     rw [hb] at h
     simp only [and_eq_true] at hb
     obtain ⟨⟨⟨b1,b2⟩,b3⟩,b4⟩:=hb
     have b1:=eq_of_beq_eq_true b1
     have b2:=le_of_ble_eq_true b2
     have b3:=le_of_ble_eq_true b3
     have b4:=le_of_ble_eq_true b4
     subst b1
     obtain ⟨b,c,k1,k2,k3,k4,k5,rfl⟩:=hx.row_inv
     simp only [cond_true] at h
     cases hq:beq l m with
     |true=>
      rw [hq] at h
      have hq:=eq_of_beq_eq_true hq
      injection h with h;subst h
      refine .of_ok ?_ (hrun rfl b2 b3 (by omega) rfl)
      have e1:hn-l=0:=by omega
      have e2:m-l=0:=by omega
      rw [if_pos hq.symm,e1,e2]
      exact .sl k1
     |false=>
      rw [hq] at h
      have hq:=ne_of_beq_eq_false hq
      injection h with h;subst h
      refine .of_ok ?_ (hrun rfl b2 b3 (by omega) rfl)
      rw [if_neg (λh=>hq h.symm)]
      simp only
      rw [←add_mul]
      exact .sl k1
   ·rename_i id off n' cap
    cases hb:(ble l hn&&ble hn m&&ble m cap&&ble cap 140737488355328) with
    |false=>rw [hb] at h;cases h
    |true=>
     rw [hb] at h
     simp only [and_eq_true] at hb
     obtain ⟨⟨⟨b2,b3⟩,b4⟩,b5⟩:=hb
     have b2:=le_of_ble_eq_true b2
     have b3:=le_of_ble_eq_true b3
     have b4:=le_of_ble_eq_true b4
     have b5:=le_of_ble_eq_true b5
     obtain ⟨b,k1,rfl⟩:=hx.sl_inv
     simp only [cond_true] at h
     cases hq:beq l m with
     |true=>
      rw [hq] at h
      have hq:=eq_of_beq_eq_true hq
      injection h with h;subst h
      refine .of_ok ?_ (hrun rfl b2 b3 b4 rfl)
      have e1:hn-l=0:=by omega
      have e2:m-l=0:=by omega
      rw [if_pos hq.symm,e1,e2]
      exact .sl k1
     |false=>
      rw [hq] at h
      have hq:=ne_of_beq_eq_false hq
      injection h with h;subst h
      refine .of_ok ?_ (hrun rfl b2 b3 b4 rfl)
      rw [if_neg (λh=>hq h.symm)]
      exact .sl k1
   ·rename_i size es tok
    cases hb:(beq inf.size size&&ble l hn&&ble hn m&&ble m es.length) with
    |false=>rw [hb] at h;cases h
    |true=>
     rw [hb] at h
     simp only [and_eq_true] at hb
     obtain ⟨⟨⟨b1,b2⟩,b3⟩,b4⟩:=hb
     have b1:=eq_of_beq_eq_true b1
     have b2:=le_of_ble_eq_true b2
     have b3:=le_of_ble_eq_true b3
     have b4:=le_of_ble_eq_true b4
     subst b1
     injection h with h;subst h
     obtain ⟨a,n,c,hu2,hn2,hnc,_,hd⟩:=hx.vec_drop (l:=l) (by omega)
     have hd:=hd hn b2 (by omega)
     rcases hx.vec_inv with ⟨h0,hes,_⟩ | ⟨b,o,c',us,h0,h5,h6,_⟩ | ⟨ad,h0,hes,_⟩
     rotate_left 2
     ·subst hes
      simp only [List.length_nil,Nat.le_zero_eq] at b4
      have e1:m=0:=b4
      have e2:hn=0:=by omega
      have e3:l=0:=by omega
      subst e1 e2 e3
      refine .of_ok (v:=.slice (some ad) 0 0) (by simpa using VR.odd (g:=g) (w:=w) (size:=inf.size) (tok:=.none) ad trivial) λw'=> ?_
      have:=pG (P:=P) (isS:=true) (len:=0) (cap:=0) h1 h2 h3 hl hh hm b2 b3 (le_refl _) w'
      rw [h0]
      simp only [sliceAt,Instr.slice,run_bind,run_underlying hu,andThen_ok,this,bH hinf,run_pure,map_some,ite_self]
      simp
     ·subst hes
      simp only [List.length_nil,Nat.le_zero_eq] at b4
      have e1:m=0:=b4
      have e2:hn=0:=by omega
      have e3:l=0:=by omega
      subst e1 e2 e3
      refine .of_ok (v:=.slice none 0 0) (by simpa using VR.nil (g:=g) (w:=w) (size:=inf.size) (tok:=.none) trivial) λw'=> ?_
      have:=pG (P:=P) (isS:=true) (len:=0) (cap:=0) h1 h2 h3 hl hh hm b2 b3 (le_refl _) w'
      rw [h0]
      simp only [sliceAt,Instr.slice,run_bind,run_underlying hu,andThen_ok,this,bH hinf,run_pure,map_none,ite_self,sub_zero]
     ·rw [hu2] at h0
      injection h0 with h01 h02 h03
      subst h01 h03
      refine .of_ok ?_ (hrun hu2 b2 b3 (by omega) rfl)
      by_cases hml:m=l
      ·have:hn=l:=by omega
       subst this
       rw [if_pos hml,hml,Nat.sub_self]
       have e1:(es.take hn).drop hn= []:=List.drop_eq_nil_of_le (by simp;omega)
       rw [e1]
       exact .mk_vec (us:= []) (by simp) (by omega) (by omega) (by simp) trivial (by simpa using VRs.nil g w) (by simp) (by simp) (by simp)
      ·rw [if_neg hml]
       rw [if_neg (by omega)] at hd
       simp only [map_some,Addr.add_none] at hd
       generalize hes2:(es.take hn).drop l=es2 at hd ⊢
       rcases hd.vec_inv with ⟨h7,_⟩ | ⟨b',o',c2,us2,h7,h8,h9,h10,h11,h12,h13,h14,h15⟩ | ⟨_,h7,_⟩
       rotate_left 2
       ·injection h7 with h71 h72 h73
        omega
       ·cases h7
       ·injection h7 with h71 h72 h73
        injection h71 with h71;injection h71 with h71 h74
        subst h71 h74
        rw [h72]
        exact .mk_vec (us:=us2) rfl (by omega) (by omega) h10 trivial h12 h13 h14 h15
   ·cases h
  ·cases h
 ·cases h
def jx (P:Program)(T:VT)(t tx:TypeId)(s x:TV):Option (TV × VT):=match P.underlying t,s with
 |some (.slice e),.sl _ _ n cap=>match P.info? e with
  |some i=>match i.zero,bL T i.size x,bL T i.size s with
   |some z,some es2,some es=>match es2 with
    |[]=>bif ble n cap then some (s,T) else none
    |_::_=>bif decide (z.cells.size=i.size)&&z.cells.toList.all oneCell' &&fD (P.underlying tx)&&beq n cap&&beq es.length n&&ble ((n+es2.length)*(i.bytes+1)) 140737488355328 then some (.row i.size T.objs.length 0 (n+es2.length),T.newRow (es.flatten++es2.flatten)) else none
   |_,_,_=>none
  |none=>none
 |_,_=>none
theorem KK (r:RW g T w){ro:Nat}{t tx ty:TypeId}{s x y:TV}{us ux:Value}{T':VT}(h:jx P T t tx s x=some (y,T'))(hs:VR g w s us)(hx:VR g w x ux)(hk0:fD (P.underlying tx)=true):
  ∃u g' w',(append_ #[t,tx] ty #[us,ux]).run P w=.ok u w'∧VR g' w' y u∧Evo g w g' w'∧RW g' T' w'∧Fix ro g T w T' w':=by
 unfold jx at h
 split at h
 ·rename_i e id off n cap ht
  split at h
  ·rename_i i hi
   split at h
   ·rename_i z es2 es hz hr2 hr1
    obtain ⟨news,sr,k2,z2⟩:=nT (P:=P) r hr2 hx (pW hk0)
    obtain ⟨olds,so,k1,z1⟩:=nT (P:=P) (tx:=t) r hr1 hs (.inl ⟨e,ht⟩)
    have hfl1:=cf z1
    obtain ⟨b,hb0,rfl⟩:=hs.sl_inv
    split at h
    ·cases hb:ble n cap with
     |false=>rw [hb] at h;cases h
     |true=>
      rw [hb] at h
      injection h with h;injection h with h1 h2;subst h1 h2
      have sr0:Src P i.size tx ux 0 news w:=sr
      exact ⟨_,g,w,jQ (ty:=ty) ht hi sr0 (a:=some ⟨b,off,none⟩) (le_of_ble_eq_true hb),hs,Evo.refl _ _,r,Fix.refl _ _ _ _⟩
    ·rename_i q0 qs
     cases hb:(decide (z.cells.size=i.size)&&z.cells.toList.all oneCell' &&fD (P.underlying tx)&&beq n cap&&beq es.length n&&ble ((n+(q0::qs).length)*(i.bytes+1)) 140737488355328) with
     |false=>rw [hb] at h;cases h
     |true=>
      rw [hb] at h
      simp only [and_eq_true,decide_eq_true_eq] at hb
      obtain ⟨⟨⟨⟨⟨hz1,hz2⟩,hk⟩,hnc⟩,hen⟩,hbig⟩:=hb
      have hnc:=eq_of_beq_eq_true hnc
      have hen:=eq_of_beq_eq_true hen
      have hbig:=le_of_ble_eq_true hbig
      injection h with h;injection h with h1 h2;subst h1 h2
      have hz3:∀u∈z.cells.toList,u.oneCell'=true:=all_eq_true.1 hz2
      subst hnc hen
      obtain ⟨_,_,_,so3,so4,so5⟩:=so
      obtain ⟨u,g',w',e1,e2,e3,e4,e5⟩:=lC (ty:=ty) r ht hi hz hz1 (cs:=es.flatten) (a:=some ⟨b,off,none⟩) (n:=es.length) (c:=es.length) (us:=olds) hfl1 k1 so5 hz3 so3 sr k2 (by simp) hbig
      exact ⟨u,g',w',e1,e2,e3,e4,Fix.of_same (Same.of_gr r e5) (ga _ _)⟩
   ·cases h
  ·cases h
 ·cases h
@[irreducible] def yI (P:Program)(x:TV)(t:TypeId)(ok:Bool):Option TV:=(λ_=>none) (P,x,t,ok)
theorem FY {t tx:TypeId}{x y:TV}{u:Value}{ok:Bool}(h:yI P x t ok=some y)(hx:VR g w x u):Looks0 P g w (Instr.typeAssert u tx t ok) y:=by
 have _u:=hx
 unfold yI at h
 cases h
end
section
variable {P:Program}{g:Gh}{T:VT}{w:World}
def yJ (P:Program)(ro:Nat)(T:VT)(t:TypeId)(m k:TV):Option (TV × VT):=match P.underlying t,cL k,m with
 |some (.map kt _),some kv,.map id=>match dq P kt,T.objs[id]? with
  |some sh,some (.map sh' look es ck)=>bif j6 sh sh' &&sh.fits kv&&ble ro id then
    some (.val (.tuple #[]),{T with objs:=T.objs.set id (.map sh (λk'=>bif aq kv k' then none else look k') (fB kv es) ck)}) else none
  |_,_=>none
 |some (.map kt _),some kv,.val (.map none)=>match dq P kt with
  |some sh=>bif sh.fits kv then some (.val (.tuple #[]),T) else none
  |none=>none
 |_,_,_=>none
theorem Et {k:Value}:∀{es:List (Value × TV × Nat)} (j:Nat) e,es[j]?=some e→aq k e.1=true→(∀j',j' <j→∀e,es[j']?=some e→aq k e.1=false)→fB k es=es.eraseIdx j
 |[],_,_,h,_,_=>by simp at h
 |e0::es,0,e,h,hq,_=>by
  simp at h;subst h
  simp [fB,hq]
 |e0::es,j+1,e,h,hq,hb=>by
  have h0:=hb 0 (by omega) e0 rfl
  simp only [fB,h0,cond_false,List.eraseIdx_cons_succ]
  rw [Et j e (by simpa using h) hq λj' hj e' he'=>hb (j' +1) (by omega) e' (by simpa using he')]
theorem oX {k:Value}:∀{es:List (Value × TV × Nat)},dj k es=none→fB k es=es
 |[],_=>rfl
 |e::es,h=>by
  simp only [dj] at h
  cases hq:aq k e.1 with
  |true=>rw [hq] at h;cases h
  |false=>
   rw [hq] at h
   simp only [fB,hq,cond_false]
   rw [oX h]
theorem lF {k:Value}:∀(es:List (Value × TV × Nat)),(fB k es).Sublist es
 |[]=>.slnil
 |e::es=>by
  simp only [fB]
  cases aq k e.1 with
  |true=>exact List.sublist_cons_self e es
  |false=>exact (lF es).cons_cons e
theorem BJ {k:Value}{sh:KS}(hk:sh.fits k=true):∀{es:List (Value × TV × Nat)},(∀e∈es,sh.fits e.1=true)→k∉es.map (·.1)→dj k es=none
 |[],_,_=>rfl
 |e::es,h,hn=>by
  simp only [dj]
  have h1:=ce hk (h e (by simp))
  cases hq:aq k e.1 with
  |true=>exact absurd (by simp [h1.1 hq]) hn
  |false=>exact BJ hk (λe' he'=>h e' (by simp [he'])) λhm=>hn (by simp at hm ⊢;exact .inr hm)
theorem zK {k k':Value}{sh:KS}(hk:sh.fits k=true)(hk':sh.fits k'=true):∀{es:List (Value × TV × Nat)},(∀e∈es,sh.fits e.1=true)→(es.map (·.1)).Nodup→
  dj k' (fB k es)=(bif aq k k' then none else dj k' es)
 |[],_,_=>by simp only [fB,dj];cases aq k k' <;>rfl
 |e::es,h,hn=>by
  have he:=h e (by simp)
  have h1:=ce hk hk'
  have h3:=ce hk he
  have h4:=ce hk' he
  simp only [map_cons,List.nodup_cons] at hn
  have ih:=zK hk hk' (es:=es) (λe' he'=>h e' (by simp [he'])) hn.2
  simp only [fB]
  cases hq:aq k e.1 with
  |true=>
   simp only [cond_true,dj]
   have e1:=h3.1 hq
   cases hp:aq k k' with
   |true=>
    simp only [cond_true]
    refine BJ hk' (λe' he'=>h e' (by simp [he'])) ?_
    rw [←h1.1 hp,e1]
    exact hn.1
   |false=>
    have:aq k' e.1=false:=by
     cases hr:aq k' e.1 with
     |false=>rfl
     |true=>rw [h1.2 (e1.trans (h4.1 hr).symm)] at hp;cases hp
    simp only [this,cond_false]
  |false=>
   simp only [cond_false,dj,ih]
   cases hp:aq k k' with
   |true=>
    have:aq k' e.1=false:=by
     cases hr:aq k' e.1 with
     |false=>rfl
     |true=>rw [h3.2 ((h1.1 hp).trans (h4.1 hr))] at hq;cases hq
    simp only [this,cond_false,cond_true]
   |false=>rfl
theorem FZ (r:RW g T w){ro:Nat}{t ty tk:TypeId}{m k y:TV}{um uk:Value}{T':VT}(h:yJ P ro T t m k=some (y,T'))(hm:VR g w m um)(hk:VR g w k uk):
  ∃u g' w',(delete_ #[t,tk] ty #[um,uk]).run P w=.ok u w'∧VR g' w' y u∧Evo g w g' w'∧RW g' T' w'∧Fix ro g T w T' w':=by
 unfold yJ at h
 split at h
 ·rename_i kt et kv id hu hkv
  have hkv':=cE hkv hk
  subst hkv'
  split at h
  ·rename_i sh sh' look es ck hsh hid
   cases hb:(j6 sh sh' &&sh.fits uk&&ble ro id) with
   |false=>rw [hb] at h;cases h
   |true=>
    rw [hb] at h
    simp only [and_eq_true] at hb
    obtain ⟨⟨hq,hf⟩,hr⟩:=hb
    have hr:=le_of_ble_eq_true hr
    have:=ut hq
    subst this
    injection h with h;injection h with e1 e2;subst e1 e2
    obtain ⟨b,hb,rfl⟩:=hm.map_inv
    obtain ⟨b',h1,⟨ms,h2,h3,h4,h5,h6,h7,h8⟩,_⟩:=r.obj id _ hid rfl
    rw [hb] at h1;injection h1 with h1;subst h1
    have hfit:∀e∈ms.toList,sh.fits e.key=true:=λe he=>by
     have:e.key∈ms.toList.map (·.key):=mem_map_of_mem he
     rw [h3] at this
     obtain ⟨e',he',heq⟩:=mem_map.1 this
     rw [←heq];exact h6 e' he'
    have hfk:=jv hsh hf w ms.toList hfit
    have hgo:(getObj b).run P w=.ok (.map ms ck) w:=by simp [getObj,Sem.run,h2]
    have fin:∀(ms':Array MapEntry),(delete_ #[t,tk] ty #[.map (some b),uk]).run P w=.ok (.tuple #[]) {w with heap:=w.heap.setIfInBounds b (.map ms' ck)}→
      ms'.toList.map (·.key)=(fB uk es).map (·.1)→VRs g w ((fB uk es).map (·.2.1)) (ms'.toList.map (·.val))→ms'.toList.map (·.born)=(fB uk es).map (·.2.2)→
      ∃u g' w',(delete_ #[t,tk] ty #[.map (some b),uk]).run P w=.ok u w'∧VR g' w' (.val (.tuple #[])) u∧Evo g w g' w'∧
       RW g' {T with objs:=T.objs.set id (.map sh (λk'=>bif aq uk k' then none else look k') (fB uk es) ck)} w'∧
       Fix ro g T w {T with objs:=T.objs.set id (.map sh (λk'=>bif aq uk k' then none else look k') (fB uk es) ck)} w':=by
     intro ms' hrun p1 p2 p3
     obtain ⟨w1,w2,w3,w4⟩:=kB (w:=w) (ms':=ms') (ck':=ck) h2
     obtain ⟨_,e0⟩:=r.setObj hid rfl hb (o':=.gone) (w':={w with heap:=w.heap.setIfInBounds b (.map ms' ck)}) ⟨rfl,rfl,rfl⟩ w3 w2 w4 (λh=>by cases h)
     obtain ⟨r',e'⟩:=r.setObj hid rfl hb (o':=.map sh (λk'=>bif aq uk k' then none else look k') (fB uk es) ck) (w':={w with heap:=w.heap.setIfInBounds b (.map ms' ck)}) ⟨rfl,rfl,rfl⟩ w3 w2 w4
      (λ_=>⟨ms',w1,p1,p2.mono e0,p3,λe he=>h6 e ((lF es).subset he),((lF es).map _).nodup h7,λk' hk'=>by
       simp only [zK hf hk' h6 h7,h8 k' hk']⟩)
     exact ⟨_,g,_,hrun,.val _,e',r',df r hid rfl hb hr w2⟩
    rcases pZ (k:=uk) 0 h3 h4 with ⟨g1,g2⟩ | ⟨x,j,v0,g1,g2,g3,⟨e,me,k1,k2,k3,k4,k5,k6⟩,k7⟩
    ·rw [g2] at hfk
     refine fin ms ?_ ?_ ?_ ?_
     ·simp [delete_,run_underlying hu,hgo,dK hsh hf,hfk,Go.MapKept.run_setObj_map _ h2]
     ·rw [oX g1,h3]
     ·rw [oX g1];exact h4
     ·rw [oX g1,h5]
    ·rw [g2] at hfk
     simp only [zero_add] at hfk
     have hset:=Et (k:=uk) j e k1 k3 k7
     have hjm:j<ms.size:=by have:=(List.getElem?_eq_some_iff.1 k2).1;simpa using this
     have hml:(ms.eraseIdxIfInBounds j).toList=ms.toList.eraseIdx j:=by simp [Array.eraseIdxIfInBounds,hjm]
     have hme:∀{α β:Type} (f:α→β) (l:List α) (j:Nat),(l.eraseIdx j).map f=(l.map f).eraseIdx j:=λf l j=>by
      apply ext_getElem?
      intro i
      simp only [getElem?_map,List.getElem?_eraseIdx]
      split<;>rfl
     refine fin (ms.eraseIdxIfInBounds j) ?_ ?_ ?_ ?_
     ·simp [delete_,run_underlying hu,hgo,dK hsh hf,hfk,Go.MapKept.run_setObj_map _ h2]
     ·rw [hml,hset,hme,hme,h3]
     ·rw [hml,hset,hme,hme]
      refine ⟨by have:=h4.1;simp [List.length_eraseIdx] at this ⊢;rw [this],λi x u hx hu=> ?_⟩
      rw [List.getElem?_eraseIdx] at hx hu
      split at hx
      ·rename_i hi;rw [if_pos hi] at hu;exact h4.2 i x u hx hu
      ·rename_i hi;rw [if_neg hi] at hu;exact h4.2 (i+1) x u hx hu
     ·rw [hml,hset,hme,hme,h5]
  ·cases h
 ·rename_i kt et kv hu hkv
  have hkv':=cE hkv hk
  subst hkv'
  split at h
  ·rename_i sh hsh
   cases hf:sh.fits uk with
   |false=>rw [hf] at h;cases h
   |true=>
    rw [hf] at h
    injection h with h;injection h with e1 e2;subst e1 e2
    rw [hm.val_inv]
    exact ⟨_,g,w,by simp [delete_,run_underlying hu,dK hsh hf],.val _,Evo.refl _ _,r,Fix.refl _ _ _ _⟩
  ·cases h
 ·cases h
end
section
variable {P:Program}{g:Gh}{T:VT}{w:World}
def p9 (z:Value)(n:Nat):List TV:=(zeroCells z.cells n).toList.map .val
def sB (P:Program)(ro:Nat)(T:VT)(t:TypeId)(d:TV):Option (TV × VT):=match P.underlying t,d with
 |some (.slice e),.row sz id off m=>match m with
  | 0=>some (.val (.tuple #[]),T)
  |m+1=>match P.info? e,T.objs[id]? with
   |some i,some (.row cs)=>match i.zero with
    |some z=>bif beq i.size sz&&beq z.cells.size sz&&z.cells.toList.all oneCell' &&ble ((off+(m+1))*sz) cs.length&&ble ro id then
      some (.val (.tuple #[]),{T with objs:=T.objs.set id (.row (bs cs (off*sz) (p9 z (m+1))))}) else none
    |none=>none
   |_,_=>none
 |some (.map kt _),.map id=>match dq P kt,T.objs[id]? with
  |some sh,some (.map sh' _ _ ck)=>bif j6 sh sh' &&ble ro id then some (.val (.tuple #[]),{T with objs:=T.objs.set id (.map sh (λ_=>none) [] ck)}) else none
  |_,_=>none
 |_,_=>none
theorem H8 (r:RW g T w){ro:Nat}{t ty:TypeId}{d y:TV}{ud:Value}{T':VT}(h:sB P ro T t d=some (y,T'))(hd:VR g w d ud):
  ∃u g' w',(clear_ #[t] ty #[ud]).run P w=.ok u w'∧VR g' w' y u∧Evo g w g' w'∧RW g' T' w'∧Fix ro g T w T' w':=by
 unfold sB at h
 split at h
 ·rename_i e sz id off m ht
  obtain ⟨b,c,f1,f2,f3,f4,f5,rfl⟩:=hd.row_inv
  split at h
  ·injection h with h;injection h with e1 e2;subst e1 e2
   exact ⟨.tuple #[],g,w,by simp [clear_,run_underlying ht],.val _,Evo.refl _ _,r,Fix.refl _ _ _ _⟩
  ·rename_i m
   split at h
   ·rename_i i cs hi hid
    split at h
    ·rename_i z hz
     cases hb0:(beq i.size sz&&beq z.cells.size sz&&z.cells.toList.all oneCell' &&ble ((off+(m+1))*sz) cs.length&&ble ro id) with
     |false=>rw [hb0] at h;cases h
     |true=>
      rw [hb0] at h
      simp only [and_eq_true] at hb0
      obtain ⟨⟨⟨⟨b1,b2⟩,b3⟩,b4⟩,b5⟩:=hb0
      have b1:=eq_of_beq_eq_true b1
      have b2:=eq_of_beq_eq_true b2
      have b4:=le_of_ble_eq_true b4
      subst b1
      injection h with h;injection h with e1 e2;subst e1 e2
      have hzl:(zeroCells z.cells (m+1)).toList.length=(m+1)*i.size:=by rw [length_toList,size_zeroCells,b2]
      obtain ⟨w',k1,k3,k4,k5⟩:=H5 (P:=P) (ro:=ro) (off:=off*i.size) r hid f1 (VRs.vals g w (zeroCells z.cells (m+1)).toList) (BF (all_eq_true.1 b3) _)
       (by rw [length_map,hzl,←add_mul];exact b4) (le_of_ble_eq_true b5)
      exact ⟨.tuple #[],g,w',by simp [clear_,run_underlying ht,zeroValue,nO hi,hz,k1],.val _,k3,k4,k5⟩
    ·cases h
   ·cases h
 ·rename_i kt et id hu
  split at h
  ·rename_i sh sh' look es ck hsh hid
   cases hb:(j6 sh sh' &&ble ro id) with
   |false=>rw [hb] at h;cases h
   |true=>
    rw [hb] at h
    simp only [and_eq_true] at hb
    obtain ⟨hq,hr⟩:=hb
    have hr:=le_of_ble_eq_true hr
    injection h with h;injection h with e1 e2;subst e1 e2
    obtain ⟨b,hb,rfl⟩:=hd.map_inv
    obtain ⟨b',h1,⟨ms,h2,h3,h4,h5,h6,h7,h8⟩,_⟩:=r.obj id _ hid rfl
    rw [hb] at h1;injection h1 with h1;subst h1
    have hgo:(getObj b).run P w=.ok (.map ms ck) w:=by simp [getObj,Sem.run,h2]
    obtain ⟨w1,w2,w3,w4⟩:=kB (w:=w) (ms':= #[]) (ck':=ck) h2
    obtain ⟨r',e'⟩:=r.setObj hid rfl hb (o':=.map sh (λ_=>none) [] ck) (w':={w with heap:=w.heap.setIfInBounds b (.map #[] ck)}) ⟨rfl,rfl,rfl⟩ w3 w2 w4
     (λ_=>⟨#[],w1,rfl,VRs.nil _ _,rfl,λe he=>(by cases he),List.nodup_nil,λk' hk'=>rfl⟩)
    exact ⟨.tuple #[],g,_,by simp [clear_,run_underlying hu,hgo,Go.MapKept.run_setObj_map _ h2],.val _,e',r',df r hid rfl hb hr w2⟩
  ·cases h
 ·cases h
end
section
variable {P:Program}{g:Gh}{T:VT}{w:World}
def qU (k:Value):List (Value × TV × Nat)→Option (TV × Nat)
 |[]=>none
 |e::l=>bif aq k e.1 then some e.2 else qU k l
theorem BK {k:Value}:∀{es:List (Value × TV × Nat)} (j:Nat) e,es[j]?=some e→aq k e.1=true→(∀j',j' <j→∀e,es[j']?=some e→aq k e.1=false)→qU k es=some e.2
 |[],_,_,h,_,_=>by simp at h
 |e0::es,0,e,h,hq,_=>by
  simp at h;subst h
  simp [qU,hq]
 |e0::es,j+1,e,h,hq,hb=>by
  have h0:=hb 0 (by omega) e0 rfl
  simp only [qU,h0,cond_false]
  exact BK j e (by simpa using h) hq λj' hj e' he'=>hb (j' +1) (by omega) e' (by simpa using he')
theorem wS {k:Value}:∀{es:List (Value × TV × Nat)},dj k es=none→qU k es=none
 |[],_=>rfl
 |e::es,h=>by
  simp only [dj] at h
  cases hq:aq k e.1 with
  |true=>rw [hq] at h;cases h
  |false=>
   rw [hq] at h
   simp only [qU,hq,cond_false]
   exact wS h
def yK (P:Program)(ro:Nat)(T:VT)(t:TypeId)(m k:TV):Option (TV × VT):=match P.underlying t,cL k,m with
 |some (.map kt et),some kv,.map id=>match dq P kt,P.info? et,T.objs[id]? with
  |some sh,some inf,some (.map sh' look es ck)=>bif j6 sh sh' &&sh.fits kv&&ble ro id then (match qU kv es with
    |some xb=>some (.tup [xb.1,.val (.int .i64 xb.2)],{T with objs:=T.objs.set id (.map sh look es ck)})
    |none=>match inf.zero with
     |some z=>some (.tup [.val z,.val (.int .i64 ck)],{T with objs:=T.objs.set id (.map sh (λk'=>bif aq kv k' then some (.val z) else look k') (cI kv (.val z) ck es) (ck+1))})
     |none=>none) else none
  |_,_,_=>none
 |_,_,_=>none
theorem F0 (r:RW g T w){ro:Nat}{t:TypeId}{m k y:TV}{um uk:Value}{T':VT}(h:yK P ro T t m k=some (y,T'))(hm:VR g w m um)(hk:VR g w k uk):
  ∃u g' w',(Instr.mapEntry t um uk).run P w=.ok u w'∧VR g' w' y u∧Evo g w g' w'∧RW g' T' w'∧Fix ro g T w T' w':=by
 unfold yK at h
 split at h
 ·rename_i kt et kv id hu hkv
  have hkv':=cE hkv hk
  subst hkv'
  split at h
  ·rename_i sh inf sh' look es ck hsh hinf hid
   cases hb:(j6 sh sh' &&sh.fits uk&&ble ro id) with
   |false=>rw [hb] at h;cases h
   |true=>
    rw [hb] at h
    simp only [and_eq_true] at hb
    obtain ⟨⟨hq,hf⟩,hr⟩:=hb
    have hr:=le_of_ble_eq_true hr
    have:=ut hq
    subst this
    simp only [cond_true] at h
    obtain ⟨b,hb,rfl⟩:=hm.map_inv
    obtain ⟨b',h1,⟨ms,h2,h3,h4,h5,h6,h7,h8⟩,_⟩:=r.obj id _ hid rfl
    rw [hb] at h1;injection h1 with h1;subst h1
    have hfit:∀e∈ms.toList,sh.fits e.key=true:=λe he=>by
     have:e.key∈ms.toList.map (·.key):=mem_map_of_mem he
     rw [h3] at this
     obtain ⟨e',he',heq⟩:=mem_map.1 this
     rw [←heq];exact h6 e' he'
    have hfk:=jv hsh hf w ms.toList hfit
    have hgo:(getObj b).run P w=.ok (.map ms ck) w:=by simp [getObj,Sem.run,h2]
    rcases pZ (k:=uk) 0 h3 h4 with ⟨g1,g2⟩ | ⟨x,j,v0,g1,g2,g3,⟨e,me,k1,k2,k3,k4,k5,k6⟩,k7⟩
    ·rw [g2] at hfk
     rw [wS g1] at h
     split at h
     ·rename_i xb hx;cases hx
     ·split at h
      ·rename_i z hz
       injection h with h;injection h with e1 e2;subst e1 e2
       have hzr:∀w',(zeroValue et).run P w'=.ok z w':=λw'=>by simp [zeroValue,nO hinf,hz]
       obtain ⟨w1,w2,w3,w4⟩:=kB (w:=w) (ms':=ms.push {key:=uk,val:=z,born:=ck}) (ck':=ck+1) h2
       obtain ⟨_,e0⟩:=r.setObj hid rfl hb (o':=.gone) (w':={w with heap:=w.heap.setIfInBounds b (.map (ms.push {key:=uk,val:=z,born:=ck}) (ck+1))}) ⟨rfl,rfl,rfl⟩ w3 w2 w4 (λh=>by cases h)
       obtain ⟨r',e'⟩:=r.setObj hid rfl hb (o':=.map sh (λk'=>bif aq uk k' then some (.val z) else look k') (cI uk (.val z) ck es) (ck+1)) (w':={w with heap:=w.heap.setIfInBounds b (.map (ms.push {key:=uk,val:=z,born:=ck}) (ck+1))}) ⟨rfl,rfl,rfl⟩ w3 w2 w4
        (λ_=>⟨_,w1,by rw [j7 _ ck g1];simp [h3],by
         rw [j7 _ ck g1]
         have:=h4.app (.cons (.val z) (.nil g w))
         exact (by simpa using this:VRs g w _ _).mono e0,by rw [j7 _ ck g1];simp [h5],sw hf _ ck h6,ni hf _ ck h6 h7,λk' hk'=>by
         simp only [oW hf hk' _ ck h6,h8 k' hk']⟩)
       refine ⟨.tuple #[z,.int .i64 ck],g,_,?_,.tup (us:= [z,.int .i64 ck]) rfl (λj x u hx hu=> ?_),e',r',df r hid rfl hb hr w2⟩
       ·simp [Instr.mapEntry,run_underlying hu,hgo,dK hsh hf,hfk,hzr,Go.MapKept.run_setObj_map _ h2,goInt]
       ·match j,hx,hu with
        | 0,hx,hu=>simp at hx hu;subst hx hu;exact .val _
        | 1,hx,hu=>simp at hx hu;subst hx hu;exact .val _
      ·cases h
    ·rw [g2] at hfk
     have hmf:=BK (k:=uk) j e k1 k3 k7
     rw [hmf] at h
     simp only at h
     injection h with h;injection h with e1 e2;subst e1 e2
     have hkey:me.key=uk:=by rw [k4];exact ((ce hf (h6 e (mem_of_getElem? k1))).1 k3).symm
     have hjm:j<ms.size:=by have:=(List.getElem?_eq_some_iff.1 k2).1;simpa using this
     have hmj:ms[j]?=some me:=by simpa using k2
     have hml:(ms.modify j λe=>{e with key:=uk})=ms:=by
      apply Array.ext_getElem?
      intro i
      rw [getElem?_modify]
      by_cases hij:j=i
      ·subst hij
       rw [if_pos rfl,hmj]
       simp only [map_some,←hkey]
      ·rw [if_neg hij]
     have hst:(keyThatStays me.key uk).run P w=.ok uk w:=by
      simp only [hkey,keyThatStays,rY hf,if_true,run_pure]
     have hborn:e.2.2=me.born:=by
      have h9:=congrArg (·[j]?) h5
      simp only [getElem?_map,k1,k2,map_some,Option.some.injEq] at h9
      exact h9.symm
     obtain ⟨w1,w2,w3,w4⟩:=kB (w:=w) (ms':=ms) (ck':=ck) h2
     obtain ⟨_,e0⟩:=r.setObj hid rfl hb (o':=.gone) (w':={w with heap:=w.heap.setIfInBounds b (.map ms ck)}) ⟨rfl,rfl,rfl⟩ w3 w2 w4 (λh=>by cases h)
     obtain ⟨r',e'⟩:=r.setObj hid rfl hb (o':=.map sh look es ck) (w':={w with heap:=w.heap.setIfInBounds b (.map ms ck)}) ⟨rfl,rfl,rfl⟩ w3 w2 w4
      (λ_=>⟨ms,w1,h3,h4.mono e0,h5,h6,h7,h8⟩)
     refine ⟨.tuple #[v0,.int .i64 e.2.2],g,_,?_,.tup (us:= [v0,.int .i64 e.2.2]) rfl (λj x u hx hu=> ?_),e',r',df r hid rfl hb hr w2⟩
     ·simp only [zero_add] at hfk
      simp [Instr.mapEntry,run_underlying hu,hgo,dK hsh hf,hfk,hst,hml,Go.MapKept.run_setObj_map _ h2,goInt,hmj,hborn]
     ·match j,hx,hu with
      | 0,hx,hu=>simp at hx hu;subst hx hu;rw [←k6];exact g3.mono e0
      | 1,hx,hu=>simp at hx hu;subst hx hu;exact .val _
  ·cases h
 ·cases h
def F1 (born:Nat):List (Value × TV × Nat)→Option Value
 |[]=>none
 |e::l=>bif beq e.2.2 born then some e.1 else F1 born l
theorem Eu {born:Nat}{key:Value}:∀{es:List (Value × TV × Nat)},F1 born es=some key→∃(j:Nat) (e:Value × TV × Nat),es[j]?=some e∧e.1=key∧e.2.2=born∧∀j' e',j' <j→es[j']?=some e'→e'.2.2≠born
 |[],h=>by cases h
 |e::es,h=>by
  simp only [F1] at h
  cases hb:beq e.2.2 born with
  |true=>
   rw [hb] at h;injection h with h
   exact ⟨0,e,rfl,h,eq_of_beq_eq_true hb,λj' _ hj=>absurd hj (Nat.not_lt_zero _)⟩
  |false=>
   rw [hb] at h
   obtain ⟨j,e',h1,h2,h3,h4⟩:=Eu (es:=es) h
   refine ⟨j+1,e',by simpa using h1,h2,h3,λj' e'' hj he=> ?_⟩
   cases j' with
   |zero=>simp at he;subst he;intro hc;rw [hc,Nat.beq_refl] at hb;cases hb
   |succ j'=>exact h4 j' e'' (by omega) (by simpa using he)
def yL (ro:Nat)(T:VT)(m s v:TV):Option (TV × VT):=match m,s with
 | .map id,.val (.int .i64 z)=>match T.objs[id]? with
  |some (.map sh look es ck)=>match F1 z.toNat es with
   |some key=>bif decide (0≤z)&&ble ro id then some (.val undef,{T with objs:=T.objs.set id (.map sh (λk'=>bif aq key k' then some v else look k') (cI key v ck es) ck)}) else none
   |none=>none
  |_=>none
 |_,_=>none
theorem F3 (r:RW g T w){ro:Nat}{t:TypeId}{m s v y:TV}{um us uv:Value}{T':VT}(h:yL ro T m s v=some (y,T'))(hm:VR g w m um)(hs:VR g w s us)(hv:VR g w v uv):
  ∃g' w',(Instr.entryStore t um us uv).run P w=.ok () w'∧VR g' w' y undef∧Evo g w g' w'∧RW g' T' w'∧Fix ro g T w T' w':=by
 unfold yL at h
 split at h
 ·rename_i id z
  have:=hs.val_inv
  subst this
  split at h
  ·rename_i sh look es ck hid
   split at h
   ·rename_i key hkey
    cases hb:(decide (0≤z)&&ble ro id) with
    |false=>rw [hb] at h;cases h
    |true=>
     rw [hb] at h
     simp only [and_eq_true,decide_eq_true_eq] at hb
     obtain ⟨hz,hr⟩:=hb
     have hr:=le_of_ble_eq_true hr
     injection h with h;injection h with e1 e2;subst e1 e2
     obtain ⟨b,hb,rfl⟩:=hm.map_inv
     obtain ⟨b',h1,⟨ms,h2,h3,h4,h5,h6,h7,h8⟩,_⟩:=r.obj id _ hid rfl
     rw [hb] at h1;injection h1 with h1;subst h1
     obtain ⟨j,e,k1,k2,k3,k4⟩:=Eu hkey
     have hf:sh.fits key=true:=by rw [←k2];exact h6 e (mem_of_getElem? k1)
     have hje:j<es.length:=(List.getElem?_eq_some_iff.1 k1).1
     have hkl:ms.toList.length=es.length:=by have:=congrArg length h3;simpa using this
     have hjm:j<ms.size:=by rw [←length_toList,hkl];exact hje
     have hbj:∀(i:Nat) e',es[i]?=some e'→∃me,ms[i]?=some me∧me.born=e'.2.2:=λi e' he=>by
      have hi:i<ms.size:=by rw [←length_toList,hkl];exact (List.getElem?_eq_some_iff.1 he).1
      refine ⟨ms[i],Array.getElem?_eq_getElem hi,?_⟩
      have h9:=congrArg (·[i]?) h5
      simp only [getElem?_map,he,map_some,getElem?_toList,Array.getElem?_eq_getElem hi,Option.some.injEq] at h9
      exact h9
     obtain ⟨me,hme,hmb⟩:=hbj j e k1
     have hfi:ms.findIdx? (λe=>(e.born:Int)==z)=some j:=by
      rw [Array.findIdx?_eq_some_iff_getElem]
      refine ⟨hjm,?_,λi hi=> ?_⟩
      ·rw [Array.getElem?_eq_getElem hjm] at hme
       injection hme with hme
       rw [hme,hmb,k3];simp;omega
      ·have hie:i<es.length:=by omega
       obtain ⟨mi,hmi,hmib⟩:=hbj i _ (getElem?_eq_getElem hie)
       have hne:=k4 i _ hi (getElem?_eq_getElem hie)
       rw [Array.getElem?_eq_getElem (by omega)] at hmi
       injection hmi with hmi
       rw [hmi,hmib]
       simp;omega
     have hq:aq key e.1=true:=by rw [k2];exact (ce hf hf).2 rfl
     have hpre:∀j',j' <j→∀e',es[j']?=some e'→aq key e'.1=false:=λj' hj e' he=>by
      cases hk:aq key e'.1 with
      |false=>rfl
      |true=>
       exfalso
       have e9:=(ce hf (h6 e' (mem_of_getElem? he))).1 hk
       have hn:=(List.nodup_iff_pairwise_ne.1 h7:(es.map (·.1)).Pairwise (· ≠ ·))
       have:=List.pairwise_iff_getElem.1 hn j' j (by simp;omega) (by simpa using hje) hj
       simp only [List.getElem_map] at this
       rw [getElem?_eq_getElem (by omega)] at he
       rw [getElem?_eq_getElem hje] at k1
       injection he with he;injection k1 with k1
       rw [he,k1,k2] at this
       exact this e9.symm
     have hset:=yH (k:=key) v ck j e k1 hq hpre
     have hml:(ms.modify j λe=>{e with val:=uv}).toList=ms.toList.set j {me with val:=uv}:=by
      apply ext_getElem?
      intro i
      rw [getElem?_toList,getElem?_modify,getElem?_set]
      by_cases hij:j=i
      ·subst hij
       rw [if_pos rfl,if_pos rfl,hme]
       simp [hjm]
      ·rw [if_neg hij,if_neg hij];simp
     have hmk:me.key=key:=by
      have h9:=congrArg (·[j]?) h3
      simp only [getElem?_map,k1,map_some,getElem?_toList,hme,Option.some.injEq] at h9
      rw [h9,k2]
     have hgo:(getObj b).run P w=.ok (.map ms ck) w:=by simp [getObj,Sem.run,h2]
     obtain ⟨w1,w2,w3,w4⟩:=kB (w:=w) (ms':=ms.modify j λe=>{e with val:=uv}) (ck':=ck) h2
     obtain ⟨_,e0⟩:=r.setObj hid rfl hb (o':=.gone) (w':={w with heap:=w.heap.setIfInBounds b (.map (ms.modify j λe=>{e with val:=uv}) ck)}) ⟨rfl,rfl,rfl⟩ w3 w2 w4 (λh=>by cases h)
     obtain ⟨r',e'⟩:=r.setObj hid rfl hb (o':=.map sh (λk'=>bif aq key k' then some v else look k') (cI key v ck es) ck) (w':={w with heap:=w.heap.setIfInBounds b (.map (ms.modify j λe=>{e with val:=uv}) ck)}) ⟨rfl,rfl,rfl⟩ w3 w2 w4
      (λ_=>⟨_,w1,by rw [hml,hset,map_set,map_set,h3,hmk],by
       rw [hml,hset,map_set,map_set]
       exact (h4.set j hv).mono e0,by rw [hml,hset,map_set,map_set,h5,←hmb],sw hf v ck h6,ni hf v ck h6 h7,λk' hk'=>by
       simp only [oW hf hk' v ck h6,h8 k' hk']⟩)
     exact ⟨g,_,by simp [Instr.entryStore,hgo,asInt,asIntOf,hfi,Go.MapKept.run_setObj_map _ h2],.val _,e',r',df r hid rfl hb hr w2⟩
   ·cases h
  ·cases h
 ·cases h
end
section
variable {P:Program}
abbrev aP:=Nat→Option (List TV)
def GOk (G:aP)(g:Gh)(w:World):Prop:=∀n cs,G n=some cs→VR g w (.elt cs) (.pointer (some ⟨n,0,none⟩))
theorem GOk.mono {G:aP}{g g':Gh}{w w':World}(h:GOk G g w)(e:Evo g w g' w'):GOk G g' w':=λn cs hn=>(h n cs hn).mono e
def bb (G:aP)(σ:List TV):Operand→TV
 | .tmp t=>σ.getD t .dead
 | .const v=>.val v
 | .global n=>match G n with
  |some cs=>.elt cs
  |none=>.val (.pointer (some ⟨n,0,none⟩))
 | .func f=>.fn (.func f) [] []
theorem eW {G:aP}{g:Gh}{w:World}{σ:List TV}{a:Act}(hG:GOk G g w)(h:VRs g w σ a.tmps.toList)(x:Operand):VR g w (bb G σ x) (a.eval x):=by
 cases x with
 |global n=>
  simp only [bb]
  split
  ·rename_i cs hn;exact hG n cs hn
  ·exact .val _
 |tmp t=>exact vM h (.tmp t)
 |const v=>exact vM h (.const v)
 |func f=>exact vM h (.func f)
def KL (P:Program)(op:BinOp)(t:TypeId)(x y:TV):Option TV:=match P.underlying t,y with
 |some (.slice _),.val (.slice none _ _)=>match x with
  | .row .. =>dY op false
  | .sl .. =>dY op false
  | .vec _ (_::_) _=>dY op false
  | .vec _ [] .full=>dY op false
  | .vec _ [] .live=>dY op false
  | .vec _ [] (.past _ _)=>dY op false
  |_=>none
 |some (.pointer e),.ptr j o2=>(match x with
  | .ptr i o1=>bif beq i j then (match P.info? e with
   |some inf=>bif beq inf.size 0 then none else dY op (beq o1 o2)
   |none=>none) else none
  |_=>none)
 |_,_=>none
theorem NS {g:Gh}{w:World}{op:BinOp}{t:TypeId}{xo yo:Operand}{x y r:TV}{u v:Value}(h:KL P op t x y=some r)(hx:VR g w x u)(hy:VR g w y v):
  Looks0 P g w (do eqGuard op t xo yo u v;binOp op t u v) r:=by
 unfold KL at h
 split at h
 ·rename_i e n c hu
  rw [hy.val_inv]
  have go:∀a m k,u=.slice (some a) m k→dY op false=some r→Looks0 P g w (do eqGuard op t xo yo u (.slice none n c);binOp op t u (.slice none n c)) r:=by
   intro a m k h1 h2
   subst h1
   refine jn h2 (λop=>by cases op<;>rfl) (λw'=>fk (λd w=> ?_) w') rfl rfl
   simp [equalIn,run_underlying hu]
  split at h
  ·obtain ⟨b,c',_,_,_,_,_,h1⟩:=hx.row_inv
   exact go _ _ _ h1 h
  ·obtain ⟨b,_,h1⟩:=hx.sl_inv
   exact go _ _ _ h1 h
  ·rcases hx.vec_inv with ⟨_,h2,_⟩ | ⟨b,o,c',us,h1,_⟩ | ⟨_,_,h2,_⟩
   ·cases h2
   ·exact go _ _ _ h1 h
   ·cases h2
  ·rcases hx.vec_inv with ⟨_,_,h2⟩ | ⟨b,o,c',us,h1,_⟩ | ⟨a,h1,_⟩
   ·exact h2.elim
   ·exact go _ _ _ h1 h
   ·exact go _ _ _ h1 h
  ·rcases hx.vec_inv with ⟨_,_,h2⟩ | ⟨b,o,c',us,h1,_⟩ | ⟨a,h1,_⟩
   ·exact h2.elim
   ·exact go _ _ _ h1 h
   ·exact go _ _ _ h1 h
  ·rcases hx.vec_inv with ⟨_,_,h2⟩ | ⟨b,o,c',us,h1,_⟩ | ⟨a,h1,_⟩
   ·exact h2.elim
   ·exact go _ _ _ h1 h
   ·exact go _ _ _ h1 h
  ·cases h
 ·rename_i e j o2 hu
  split at h
  ·rename_i i o1
   cases hb:beq i j with
   |false=>rw [hb] at h;cases h
   |true=>
    rw [hb] at h
    have hij:=eq_of_beq_eq_true hb
    subst hij
    simp only [cond_true] at h
    split at h
    ·rename_i inf hinf
     cases hz:beq inf.size 0 with
     |true=>rw [hz] at h;cases h
     |false=>
      rw [hz] at h
      simp only [cond_false] at h
      obtain ⟨b,hb1,rfl⟩:=hx.ptr_inv
      obtain ⟨b',hb2,rfl⟩:=hy.ptr_inv
      rw [hb1] at hb2;injection hb2 with hb2;subst hb2
      have hs:inf.size≠0:=λe=>by rw [e] at hz;cases hz
      have hq:((⟨b,o1,none⟩:Addr)==⟨b,o2,none⟩)=beq o1 o2:=by
       cases ho:beq o1 o2 with
       |true=>rw [eq_of_beq_eq_true ho];simp
       |false=>
        have:o1≠o2:=λe=>by rw [e,Nat.beq_refl] at ho;cases ho
        simp [this]
      refine jn h (λop=>by cases op<;>rfl) (λw'=>fk (λd w=> ?_) w') rfl rfl
      simp [equalIn,run_underlying hu,bH hinf,hs,sameAddr,hq]
    ·cases h
  ·cases h
 ·cases h
def A5 (P:Program)(op:BinOp)(t:TypeId)(x y:TV):Bool:=match P.underlying t,op,x,y with
 |some (.slice _),.eql,.vec _ [] .none,.val (.slice none _ _)=>true
 |some (.slice _),.neq,.vec _ [] .none,.val (.slice none _ _)=>true
 |some (.slice _),.eql,.vec _ [] (.tail ..),.val (.slice none _ _)=>true
 |some (.slice _),.neq,.vec _ [] (.tail ..),.val (.slice none _ _)=>true
 |_,_,_,_=>false
theorem KM {g:Gh}{w:World}{op:BinOp}{t:TypeId}{xo yo:Operand}{x y:TV}{u v:Value}(h:A5 P op t x y=true)(hx:VR g w x u)(hy:VR g w y v):
  ∃b,∀w',(do eqGuard op t xo yo u v;binOp op t u v:Sem Value).run P w'=.ok (.bool b) w':=by
 have go:∀{e size tok n c},P.underlying t=some (.slice e)→x=.vec size [] tok→y=.val (.slice none n c)→(op=.eql∨op=.neq)→∃b,∀w',(do eqGuard op t xo yo u v;binOp op t u v:Sem Value).run P w'=.ok (.bool b) w':=by
  intro e size tok n c hu hx1 hy1 hop
  subst hx1 hy1
  rw [hy.val_inv]
  have fin:∀{a:Option Addr} {m k:Nat} {b:Bool},(∀w',(Op.equal t (.slice a m k) (.slice none n c)).run P w'=.ok b w')→∃b,∀w',(do eqGuard op t xo yo (.slice a m k) (.slice none n c);binOp op t (.slice a m k) (.slice none n c):Sem Value).run P w'=.ok (.bool b) w':=by
   intro a m k b hb
   rcases hop with rfl | rfl
   ·obtain ⟨v',hv',hr⟩:=jn (P:=P) (g:=g) (w:=w) (op:=.eql) (t:=t) (xo:=xo) (yo:=yo) (x:=.val (.bool b)) (b:=b) rfl (λop=>by cases op<;>rfl) hb rfl rfl
    exact ⟨b,by rw [hv'.val_inv] at hr;exact hr⟩
   ·obtain ⟨v',hv',hr⟩:=jn (P:=P) (g:=g) (w:=w) (op:=.neq) (t:=t) (xo:=xo) (yo:=yo) (x:=.val (.bool (!b))) (b:=b) rfl (λop=>by cases op<;>rfl) hb rfl rfl
    exact ⟨!b,by rw [hv'.val_inv] at hr;exact hr⟩
  rcases hx.vec_inv with ⟨h1,_⟩ | ⟨b,o,c',us,h1,_⟩ | ⟨a,h1,_⟩
  ·rw [h1]
   exact fin (b:=true) λw'=>fk (λd w=>by simp [equalIn,run_underlying hu]) w'
  ·rw [h1]
   exact fin (b:=false) λw'=>fk (λd w=>by simp [equalIn,run_underlying hu]) w'
  ·rw [h1]
   exact fin (b:=false) λw'=>fk (λd w=>by simp [equalIn,run_underlying hu]) w'
 unfold A5 at h
 split at h
 ·rename_i hu;exact go hu rfl rfl (.inl rfl)
 ·rename_i hu;exact go hu rfl rfl (.inr rfl)
 ·rename_i hu;exact go hu rfl rfl (.inl rfl)
 ·rename_i hu;exact go hu rfl rfl (.inr rfl)
 ·cases h
def aW (P:Program)(op:Op)(ev:Operand→TV):Option TV:=match op with
  | .binOp op t x y _=>match Qe P op t (ev x) (ev y) with
    |some r=>some r
    |none=>match KL P op t (ev x) (ev y) with
      |some r=>some r
      |none=>Br P op t x y (ev x) (ev y)
  | .sliceToArrayPointer t x=>BD P t (ev x)
  | .index t x i=>match yG P t (ev x) (ev i) with
    |some r=>some r
    |none=>cN P (.index t x i) ev
  | .indexAddr t x i=>match nB P t (ev x) (ev i) with
    |some r=>some r
    |none=>fP P t (ev x) (ev i)
  | .typeAssert x _ t ok=>yI P (ev x) t ok
  | .slice t x lo hi mx=>match gB P t (ev x) (lo.map ev) (hi.map ev) (mx.map ev) with
   |some r=>some r
   |none=>match fw P t (ev x) (lo.map ev) (hi.map ev) (mx.map ev) with
    |some r=>some r
    |none=>match pY P t (ev x) (lo.map ev) (hi.map ev) (mx.map ev) with
      |some r=>some r
      |none=>nP P t (ev x) (lo.map ev) (hi.map ev) (mx.map ev)
  | .call c=>match c.callee,c.argTypes.toList,c.args.toList with
    | .builtin .len,[t],[x]=>(match FQ P t (ev x) with
      |some r=>some r
      |none=>cN P (.call c) ev)
    | .builtin .cap,[t],[x]=>FR P t (ev x)
    |_,_,_=>none
  | .nilCheck x=>match ev x with
    | .ptr a b=>some (.ptr a b)
    | .elt cs=>some (.elt cs)
    |_=>none
  |op=>cN P op ev
theorem mr {g:Gh}{w:World}{o:Oper}{ev:Operand→TV}{ρ:Operand→Value}{y:TV}(h:aW P o.op ev=some y)(hev:∀x,VR g w (ev x) (ρ x)):
  ∃v,VR g w y v∧∀w',(execOp ρ o).run P w'=.ok (.value v) w':=by
 have old:cN P o.op ev=some y→∃v,VR g w y v∧∀w',(execOp ρ o).run P w'=.ok (.value v) w':=λh=>Kz (P:=P) h hev
 obtain ⟨dst,op,ty,pos,af,gd⟩:=o
 simp only at h old
 cases op<;>simp only [aW] at h<;>try (exact old h)
 case binOp op t x y' ty'=>
  split at h
  ·rename_i r hr
   injection h with h;subst h
   exact (Qf (P:=P) (xo:=x) (yo:=y') hr (hev x) (hev y')).next rfl
  ·split at h
   ·rename_i r hr
    injection h with h;subst h
    exact (NS (P:=P) (xo:=x) (yo:=y') hr (hev x) (hev y')).next rfl
   ·exact old (by simpa only [cN] using h)
 case nilCheck x=>
  clear old
  split at h
  ·rename_i a b hc
   injection h with h;subst h
   have h1:=hev x
   rw [hc] at h1
   obtain ⟨c,hb,h2⟩:=h1.ptr_inv
   exact ⟨_,.ptr hb,λw'=>by simp [execOp,h2]⟩
  ·rename_i cs hc
   injection h with h;subst h
   have h1:=hev x
   rw [hc] at h1
   have h3:=h1
   obtain ⟨b,o,us,h2,_⟩:=h1.elt_inv
   rw [h2] at h3
   exact ⟨_,h3,λw'=>by simp [execOp,h2]⟩
  ·cases h
 case sliceToArrayPointer t x=>exact (HY (P:=P) h (hev x)).next rfl
 case index t x i=>
  split at h
  ·rename_i r hr
   injection h with h;subst h
   exact (FL (P:=P) hr (hev x) (hev i)).next rfl
  ·exact old h
 case indexAddr t x i=>
  split at h
  ·rename_i r hr
   injection h with h;subst h
   exact (FN (P:=P) hr (hev x) (hev i)).next rfl
  ·exact old (by simpa only [cN] using h)
 case typeAssert x tx t ok=>exact (FY (P:=P) (tx:=tx) h (hev x)).next rfl
 case slice t x lo hi mx=>
  split at h
  ·rename_i r hr
   injection h with h;subst h
   exact (FX (P:=P) hr (hev x) (BR.map hev lo) (BR.map hev hi) (BR.map hev mx)).next rfl
  ·split at h
   ·rename_i r hr
    injection h with h;subst h
    exact (FO (P:=P) hr (hev x) (BR.map hev lo) (BR.map hev hi) (BR.map hev mx)).next rfl
   ·split at h
    ·rename_i r hr
     injection h with h;subst h
     exact (FP (P:=P) hr (hev x) (BR.map hev lo) (BR.map hev hi) (BR.map hev mx)).next rfl
    ·exact old (by simpa only [cN] using h)
 case call c=>
  obtain ⟨cal,args,ats⟩:=c
  split at h
  ·rename_i t x hc h1 h2
   simp only at hc h1 h2
   subst hc
   have e1:ats= #[t]:=by rw [←toArray_toList (xs:=ats),h1]
   have e2:args= #[x]:=by rw [←toArray_toList (xs:=args),h2]
   subst e1 e2
   split at h
   ·rename_i r hr
    injection h with h;subst h
    exact (KE (P:=P) (ty:=ty) hr (hev x)).next (by simp [execOp,resolve,invoke,builtin])
   ·exact old h
  ·rename_i t x hc h1 h2
   simp only at hc h1 h2
   subst hc
   have e1:ats= #[t]:=by rw [←toArray_toList (xs:=ats),h1]
   have e2:args= #[x]:=by rw [←toArray_toList (xs:=args),h2]
   subst e1 e2
   exact (KF (P:=P) (ty:=ty) h (hev x)).next (by simp [execOp,resolve,invoke,builtin])
  ·cases h
def aY (P:Program)(T:VT)(op:Op)(ev:Operand→TV):Option TV:=match op with
 | .lookup t m k ok=>fA P T t (ev m) (ev k) ok
 | .convert s d x=>match gA P T s d (ev x) with
  |some r=>some r
  |none=>cM P T (.convert s d x) ev
 |op=>cM P T op ev
theorem sC {g:Gh}{T:VT}{w:World}(r:RW g T w){o:Oper}{ev:Operand→TV}{ρ:Operand→Value}{y:TV}(h:aY P T o.op ev=some y)(hev:∀x,VR g w (ev x) (ρ x)):
  ∃v,VR g w y v∧∀w',Same g T w w'→(execOp ρ o).run P w'=.ok (.value v) w':=by
 have old:cM P T o.op ev=some y→∃v,VR g w y v∧∀w',Same g T w w'→(execOp ρ o).run P w'=.ok (.value v) w':=λh=>Bu (P:=P) r h hev
 obtain ⟨dst,op,ty,pos,af,gd⟩:=o
 simp only at h old
 cases op<;>simp only [aY] at h<;>try (exact old h)
 case lookup t m k ok=>exact (wP (P:=P) r h (hev m) (hev k)).next rfl
 case convert s d x=>
  split at h
  ·rename_i y' hr
   injection h with h;subst h
   exact (H1 (P:=P) r hr (hev x)).next rfl
  ·exact old h
def BL (P:Program)(T0:VT)(op:Op)(ev:Operand→TV):Option TV:=match op with
 | .lookup t m k ok=>match ev m with
  | .map id=>fA P T0 t (.map id) (ev k) ok
  |_=>none
 |op=>A3 P T0 op ev
theorem BM {T:VT}{t:TypeId}{id:Nat}{k y:TV}{ok:Bool}(h:fA P T t (.map id) k ok=some y):(∃o,T.objs[id]?=some o∧o.live=true)∧∃kv,cL k=some kv:=by
 unfold fA at h
 split at h
 ·rename_i hkv
  refine ⟨?_,_,hkv⟩
  split at h
  ·split at h
   ·rename_i sh _ _ _ _ _ _
    generalize KS.fits _ _=b at h
    cases b with
    |false=>cases h
    |true=>
     simp only [cond_true] at h
     split at h
     ·exact ⟨_,by assumption,rfl⟩
     ·cases h
   ·cases h
  ·cases h
 ·cases h
theorem H9 {g g':Gh}{w w':World}{x:TV}{v u:Value}(h:cL x=some v)(hx:VR g w x u):VR g' w' x u:=by
 have e:=cE h hx
 subst e
 unfold cL at h
 split at h
 ·injection h with h;subst h;exact .val _
 ·simp only [map_eq_some_iff] at h
  obtain ⟨vs,h,e⟩:=h
  subst e
  have key:∀{cs:List TV} {vs:List Value},kR cs=some vs→cs=vs.map .val:=by
   intro cs
   induction cs with
   |nil=>intro vs h;injection h with h;subst h;rfl
   |cons c cs ih=>
    intro vs h
    cases c<;>simp [kR] at h
    obtain ⟨a,h,rfl⟩:=h
    rw [ih h];rfl
  rw [key h]
  exact .mk_agg (VRs.vals g' w' vs)
 ·cases h
theorem Ia {g0 g:Gh}{T0:VT}{w0 w:World}(r0:RW g0 T0 w0)(e:Evo g0 w0 g w){o:Oper}{ev:Operand→TV}{ρ:Operand→Value}{y:TV}(h:BL P T0 o.op ev=some y)(hev:∀x,VR g w (ev x) (ρ x)):
  ∃v,VR g w y v∧∀w',Same g0 T0 w0 w'→(execOp ρ o).run P w'=.ok (.value v) w':=by
 have old:A3 P T0 o.op ev=some y→∃v,VR g w y v∧∀w',Same g0 T0 w0 w'→(execOp ρ o).run P w'=.ok (.value v) w':=λh=>KA (P:=P) r0 e h hev
 obtain ⟨dst,op,ty,pos,af,gd⟩:=o
 simp only at h old
 cases op<;>simp only [BL] at h<;>try (exact old h)
 case lookup t m k ok=>
  split at h
  ·rename_i id hm
   have h1:=hev m
   rw [hm] at h1
   obtain ⟨b,hb,hu⟩:=h1.map_inv
   obtain ⟨⟨oo,ho,hol⟩,kv,hkv⟩:=BM h
   obtain ⟨b0,hb0,_⟩:=r0.obj id _ ho hol
   have:=e.obj id b0 hb0
   rw [hb] at this;injection this with this;subst this
   have h2:VR g0 w0 (.map id) (ρ m):=by rw [hu];exact .map hb0
   obtain ⟨v,h3,h4⟩:=wP (P:=P) r0 h h2 (H9 hkv (hev k))
   exact ⟨v,h3.mono e,λw' hs=>by simp [execOp,h4 w' hs]⟩
  ·cases h
theorem Ib {g:Gh}{T:VT}{w:World}(r:RW g T w){size id off:Nat}{cs:List TV}{u:Value}(hid:T.objs[id]?=some (.row cs))(hs:VR g w (.vec size [] (.past id off)) u):
  ∃g',Evo g w g' w∧RW g' {(T.kill id) with tails:=T.tails++ [(0,size,false)]} w∧VR g' w (.vec size [] (.tail T.tails.length 0)) u:=by
 obtain ⟨b0,hb0,⟨us0,t0,hh,_,_,_⟩,hfr,hst⟩:=r.obj id _ hid rfl
 have r1:=r.kill hid rfl hb0
 have fr1:=qR r hid rfl hb0
 have empty:∀g':Gh,(∃b lo,g'.tail T.tails.length=some ⟨b,0,0,size,0,0,lo,false,false⟩)→∀b o,TokOk g' w (.tail T.tails.length 0) size 0 b o 0:=λg' ⟨b',lo,h⟩ b o=>
  ⟨_,h,le_refl _,rfl,λ_ hlt=>absurd hlt (Nat.lt_irrefl 0),λ_ h=>by cases h⟩
 rcases hs.vec_inv with ⟨_,_,h⟩ | ⟨b,o,c,us,rfl,a1,a2,a3,a4,a5,a6,a7,a8⟩ | ⟨a,rfl,_,_⟩
 ·exact h.elim
 ·by_cases hc:0<c
  ·obtain ⟨d1,d2,d3,d4⟩:=a4 hc
   rw [hb0] at d1;injection d1 with d1;subst d1
   have hcs:bI w b0=us0.length:=by rw [bG hh];simp
   have hn:g.tail T.tails.length=none:=r.tout _ (le_refl _)
   let x:Tl:=⟨b0,o,o+c*size,size,0,t0,w.heap.size,false,false⟩
   have hhas:∀b,x.has b→b=b0:=λb h=>by
    rcases h with ⟨o',h⟩ | ⟨h,_⟩
    ·exact h.1.symm
    ·cases h
   have hgrow:∀y,g.tail T.tails.length=some y→y.e<x.e∧x.size=y.size∧x.lo=y.lo:=λy hy=>by rw [hn] at hy;cases hy
   have rT:=r1.setTail (T':={(T.kill id) with tails:=T.tails++ [(0,size,false)]}) (k:=T.tails.length) (x:=x) rfl (.inl ⟨rfl,rfl⟩)
    (λb' o' h=>by
     obtain ⟨h1,h2,h3⟩:=h
     have h1:b0=b':=h1
     subst h1
     have h3:o' <o+c*size:=h3
     rw [d4,hcs] at h3
     refine ⟨?_,?_,hst o',hfr⟩
     ·simp [cell?,hh,h3]
     ·simp [World.frozen?,hh])
    (λi oi b' h1 h2 h3 h4=>by
     have:=hhas b' h4
     subst this
     exact fr1.obj i oi h1 h2 h3)
    (λj y b' _ hy h4=>by
     have:=hhas b' h4
     subst this
     exact fr1.tl j y hy)
    hgrow (λ_=>le_refl _) (λh=>by cases h) (λh=>by rcases h with h | h<;>cases h) (le_refl _)
   refine ⟨_,Evo.setTail hgrow (λ_=>le_refl _),rT,?_⟩
   have ev:Evo g w (g.setTail T.tails.length x) w:=Evo.setTail hgrow (λ_=>le_refl _)
   exact .mk_vec (us:= []) rfl (Nat.zero_le _) a2 (by simp) ⟨x,by simp [Gh.setTail],le_refl _,rfl,λ_ _=>⟨rfl,by simp [x],rfl⟩,λ_ h=>by cases h⟩ (by simpa using VRs.nil _ w) (by simp) (by simp) (by simp)
  ·obtain rfl:c=0:=by omega
   obtain ⟨g',e1,r2,h3⟩:=r1.newTail size false
   exact ⟨g',e1,r2,.mk_vec (us:= []) rfl (le_refl _) a2 (by simp) (empty g' ⟨_,_,h3⟩ b o) (by simpa using VRs.nil _ w) (by simp) (by simp) (by simp)⟩
 ·obtain ⟨g',e1,r2,h3⟩:=r1.newTail size false
  exact ⟨g',e1,r2,.odd a (empty g' ⟨_,_,h3⟩ 0 0)⟩
def oY (P:Program)(ro:Nat)(T:VT)(t tx:TypeId)(s x:TV):Option (TV × VT):=match s with
 | .vec size [] (.past id _)=>match T.objs[id]? with
  |some (.row _)=>bif ble ro id then ir P {(T.kill id) with tails:=T.tails++ [(0,size,false)]} t tx (.vec size [] (.tail T.tails.length 0)) x else none
  |_=>none
 |_=>none
theorem BN {T T':VT}{t tx:TypeId}{s x y:TV}(h:ir P T t tx s x=some (y,T')):T'.objs.take T.objs.length=T.objs:=by
 unfold ir at h
 split at h
 ·split at h
  ·split at h
   ·split at h
    ·injection h with h;injection h with _ h;subst h
     rename_i h1 _ _ _
     simp [uZ h1]
    ·cases h
   ·cases h
  ·cases h
 ·cases h
theorem KN {g:Gh}{T:VT}{w:World}(r:RW g T w){ro:Nat}{t tx ty:TypeId}{s x y:TV}{us ux:Value}{T':VT}(h:oY P ro T t tx s x=some (y,T'))(hs:VR g w s us)(hx:VR g w x ux):
  ∃u g' w',(append_ #[t,tx] ty #[us,ux]).run P w=.ok u w'∧VR g' w' y u∧Evo g w g' w'∧RW g' T' w'∧Fix ro g T w T' w':=by
 unfold oY at h
 split at h
 ·rename_i size id off
  split at h
  ·rename_i cs hid
   cases hb:ble ro id with
   |false=>rw [hb] at h;cases h
   |true=>
    rw [hb] at h
    simp only [cond_true] at h
    have hb:=le_of_ble_eq_true hb
    obtain ⟨g1,e1,r1,v1⟩:=Ib r hid hs
    obtain ⟨v,g',w',k1,k2,k3,k4,k5⟩:=wL (P:=P) (ty:=ty) r1 h v1 (hx.mono e1)
    have f1:Fix ro g T w {(T.kill id) with tails:=T.tails++ [(0,size,false)]} w:=by
     refine ⟨by simp [VT.kill],λi hi hl=> ?_,λ_ _ _ _ _ _ _=>rfl⟩
     simp only [VT.kill]
     rw [List.getElem?_set_ne (by omega)]
    exact ⟨v,g',w',k1,k2,e1.trans k3,k4,f1.trans e1 (Fix.of_same k5 (BN h))⟩
  ·cases h
 ·cases h
def gR (P:Program)(ro:Nat)(T:VT)(op:Op)(ev:Operand→TV):Option (TV × VT):=match op with
 | .makeSlice t l c=>nV P T t (ev l) (ev c)
 | .store t a x=>nC P ro T t (ev a) (ev x)
 | .mapUpdate t m k v=>uu P ro T t (ev m) (ev k) (ev v)
 | .insert t m k v=>uu P ro T t (ev m) (ev k) (ev v)
 | .mapEntry t m k=>yK P ro T t (ev m) (ev k)
 | .entryStore _ m s v=>yL ro T (ev m) (ev s) (ev v)
 | .makeMap t r=>lE P T t (r.map ev)
 | .call c=>match c.callee,c.argTypes.toList,c.args.toList with
  | .builtin .append,[t,tx],[s,x]=>bif fD (P.underlying tx) then (match jx P T t tx (ev s) (ev x) with
   |some r=>some r
   |none=>match oY P ro T t tx (ev s) (ev x) with
    |some r=>some r
    |none=>ju P ro T t tx (ev s) (ev x)) else wR P T t tx (ev s) (ev x)
  | .builtin .copy,[t,tx],[s,x]=>(match sA P ro T t tx (ev s) (ev x) with
   |some r=>some r
   |none=>sy P ro T t tx (ev s) (ev x))
  | .builtin .delete,[t,_],[m,k]=>yJ P ro T t (ev m) (ev k)
  | .builtin .clear,[t],[m]=>sB P ro T t (ev m)
  |_,_,_=>none
 |_=>none
theorem KO {ro:Nat}{g:Gh}{T T':VT}{w:World}(r:RW g T w){o:Oper}{ev:Operand→TV}{ρ:Operand→Value}{y:TV}(hp:gR P ro T o.op ev=some (y,T'))(hev:∀x,VR g w (ev x) (ρ x)):
  ∃m v g' w',(execOp ρ o).run P w=.ok m w'∧iu m=some v∧VR g' w' y v∧Evo g w g' w'∧RW g' T' w'∧Fix ro g T w T' w':=by
 obtain ⟨dst,op,ty,pos,af,gd⟩:=o
 simp only at hp
 cases op<;>simp only [gR] at hp<;>try (cases hp)
 case makeSlice t l c=>
  obtain ⟨h1,h2⟩:=H0 (P:=P) r hp (hev l) (hev c)
  obtain ⟨v,g',w',k1,k2,k3,k4,k5⟩:=h1
  exact ⟨.value v,v,g',w',by simp [execOp,k1],rfl,k2,k3,k4,Fix.of_same k5 h2⟩
 case store t a x=>
  obtain ⟨g',w',h2,h3,h4,h5,h6⟩:=wM (P:=P) r hp (hev a) (hev x)
  exact ⟨.skip,undef,g',w',by simp [execOp,h2],rfl,h3,h4,h5,h6⟩
 case mapUpdate t m k v=>
  obtain ⟨g',w',h2,h3,h4,h5,h6⟩:=wQ (P:=P) r hp (hev m) (hev k) (hev v)
  exact ⟨.skip,undef,g',w',by simp [execOp,h2],rfl,h3,h4,h5,h6⟩
 case insert t m k v=>
  obtain ⟨g',w',h2,h3,h4,h5,h6⟩:=wQ (P:=P) r hp (hev m) (hev k) (hev v)
  exact ⟨.skip,undef,g',w',by simp [execOp,h2],rfl,h3,h4,h5,h6⟩
 case mapEntry t m k=>
  obtain ⟨u,g',w',h2,h3,h4,h5,h6⟩:=F0 (P:=P) r hp (hev m) (hev k)
  exact ⟨.value u,u,g',w',by simp [execOp,h2],rfl,h3,h4,h5,h6⟩
 case entryStore t m s v=>
  obtain ⟨g',w',h2,h3,h4,h5,h6⟩:=F3 (P:=P) (t:=t) r hp (hev m) (hev s) (hev v)
  exact ⟨.skip,undef,g',w',by simp [execOp,h2],rfl,h3,h4,h5,h6⟩
 case makeMap t rr=>
  obtain ⟨h1,h2⟩:=D6 (P:=P) r hp (BR.map hev rr)
  obtain ⟨v,g',w',k1,k2,k3,k4,k5⟩:=h1
  exact ⟨.value v,v,g',w',by simp [execOp,k1],rfl,k2,k3,k4,Fix.of_same k5 h2⟩
 case call c=>
  obtain ⟨cal,args,ats⟩:=c
  split at hp
  ·rename_i t tx s x hc h1 h2
   simp only at hc h1 h2
   subst hc
   have e1:ats= #[t,tx]:=by rw [←toArray_toList (xs:=ats),h1]
   have e2:args= #[s,x]:=by rw [←toArray_toList (xs:=args),h2]
   subst e1 e2
   cases hk:fD (P.underlying tx) with
   |false=>
    rw [hk] at hp
    obtain ⟨u,g',w',k1,k2,k3,k4,k5⟩:=KH (P:=P) (ro:=ro) (ty:=ty) r hp (hev s) (hev x)
    exact ⟨.value u,u,g',w',by simp [execOp,resolve,invoke,builtin,k1],rfl,k2,k3,k4,k5⟩
   |true=>
    rw [hk] at hp
    simp only [cond_true] at hp
    split at hp
    ·rename_i q hq
     injection hp with hp;subst hp
     obtain ⟨u,g',w',k1,k2,k3,k4,k5⟩:=KK (P:=P) (ro:=ro) (ty:=ty) r hq (hev s) (hev x) hk
     exact ⟨.value u,u,g',w',by simp [execOp,resolve,invoke,builtin,k1],rfl,k2,k3,k4,k5⟩
    split at hp
    ·rename_i q hq
     injection hp with hp;subst hp
     obtain ⟨u,g',w',k1,k2,k3,k4,k5⟩:=KN (P:=P) (ro:=ro) (ty:=ty) r hq (hev s) (hev x)
     exact ⟨.value u,u,g',w',by simp [execOp,resolve,invoke,builtin,k1],rfl,k2,k3,k4,k5⟩
    obtain ⟨u,g',w',k1,k2,k3,k4,k5⟩:=KC (P:=P) (ty:=ty) r hp (hev s) (hev x) hk
    exact ⟨.value u,u,g',w',by simp [execOp,resolve,invoke,builtin,k1],rfl,k2,k3,k4,k5⟩
  ·rename_i t tx s x hc h1 h2
   simp only at hc h1 h2
   subst hc
   have e1:ats= #[t,tx]:=by rw [←toArray_toList (xs:=ats),h1]
   have e2:args= #[s,x]:=by rw [←toArray_toList (xs:=args),h2]
   subst e1 e2
   split at hp
   ·rename_i q hq
    injection hp with hp;subst hp
    obtain ⟨u,g',w',k1,k2,k3,k4,k5⟩:=H7 (P:=P) (ty:=ty) r hq (hev s) (hev x)
    exact ⟨.value u,u,g',w',by simp [execOp,resolve,invoke,builtin,k1],rfl,k2,k3,k4,k5⟩
   ·obtain ⟨u,g',w',k1,k2,k3,k4,k5⟩:=H6 (P:=P) (ty:=ty) r hp (hev s) (hev x)
    exact ⟨.value u,u,g',w',by simp [execOp,resolve,invoke,builtin,k1],rfl,k2,k3,k4,k5⟩
  ·rename_i t tk m k hc h1 h2
   simp only at hc h1 h2
   subst hc
   have e1:ats= #[t,tk]:=by rw [←toArray_toList (xs:=ats),h1]
   have e2:args= #[m,k]:=by rw [←toArray_toList (xs:=args),h2]
   subst e1 e2
   obtain ⟨u,g',w',k1,k2,k3,k4,k5⟩:=FZ (P:=P) (ty:=ty) (tk:=tk) r hp (hev m) (hev k)
   exact ⟨.value u,u,g',w',by simp [execOp,resolve,invoke,builtin,k1],rfl,k2,k3,k4,k5⟩
  ·rename_i t m hc h1 h2
   simp only at hc h1 h2
   subst hc
   have e1:ats= #[t]:=by rw [←toArray_toList (xs:=ats),h1]
   have e2:args= #[m]:=by rw [←toArray_toList (xs:=args),h2]
   subst e1 e2
   obtain ⟨u,g',w',k1,k2,k3,k4,k5⟩:=H8 (P:=P) (ty:=ty) r hp (hev m)
   exact ⟨.value u,u,g',w',by simp [execOp,resolve,invoke,builtin,k1],rfl,k2,k3,k4,k5⟩
  ·cases hp
def dZ (P:Program)(ro:Nat)(T:VT)(op:Op)(ev:Operand→TV):Option (TV × VT):=match aW P op ev with
 |some x=>some (x,T)
 |none=>match aY P T op ev with
  |some x=>some (x,T)
  |none=>match gR P ro T op ev with
   |some r=>some r
   |none=>bif oT ro op ev then uY P T op ev else none
theorem Ev {ro:Nat}{g:Gh}{T T':VT}{w:World}(r:RW g T w){o:Oper}{ev:Operand→TV}{ρ:Operand→Value}{y:TV}(h:dZ P ro T o.op ev=some (y,T'))(hev:∀x,VR g w (ev x) (ρ x)):
  ∃m v g' w',(execOp ρ o).run P w=.ok m w'∧iu m=some v∧VR g' w' y v∧Evo g w g' w'∧RW g' T' w'∧Fix ro g T w T' w':=by
 unfold dZ at h
 split at h
 ·rename_i x hx
  injection h with h;injection h with e1 e2;subst e1 e2
  obtain ⟨v,h1,h2⟩:=mr (P:=P) hx hev
  exact ⟨_,v,g,w,h2 w,rfl,h1,Evo.refl _ _,r,Fix.refl _ _ _ _⟩
 ·split at h
  ·rename_i x hx
   injection h with h;injection h with e1 e2;subst e1 e2
   obtain ⟨v,h1,h2⟩:=sC (P:=P) r hx hev
   exact ⟨_,v,g,w,h2 w (Same.refl _ _ _),rfl,h1,Evo.refl _ _,r,Fix.refl _ _ _ _⟩
  ·split at h
   ·rename_i p hp
    injection h with h;subst h
    exact KO r hp hev
   ·cases hf:oT ro o.op ev with
    |false=>rw [hf] at h;cases h
    |true=>
     rw [hf] at h
     exact En (P:=P) r hf h hev
end
section
variable {P:Program}
def ct (r:Option Nat):Fence:={wide with round:=r}
theorem pH {r:Option Nat}{n:Nat}{f:FuncId}{args:Array Value}{w:World}{R:Ending→World→Prop}(h:Calls P f args w R):CallsIn (ct r) n P f args w R:=
 (callsIn_wide (n:=n)).2 h
theorem BO {r:Option Nat}{n:Nat}{f:FuncId}{args:Array Value}{w:World}{R:Ending→World→Prop}(h:CallsIn (ct r) n P f args w R):Calls P f args w R:=
 (callsIn_wide (n:=n)).1 h
def ci:Op→Bool
 | .defer _=>false
 |_=>true
theorem NT {r:Option Nat}{o:Oper}{a:Act}{w:World}{next:Act→World→Prop}{Q Q':Exit→Act→World→Prop}(hQ:∀e a w,(∀c,e=.panic c→¬Q e a w)∧(e=.outgrown→¬Q e a w))(hd:ci o.op=true)
  (h:o.wp P a w next Q):o.wpIn (ct r) 0 P a w next Q':=by
 refine ⟨λ_ _=>trivial,?_⟩
 have hne:∀c,o.op≠ .defer c:=λc hc=>by rw [hc] at hd;cases hd
 rw [semAt_eq _ _ _ hne]
 unfold wp at h
 generalize (execOp a.eval o).run P w=res at h ⊢
 unfold Oper.upon at h
 split at h
 ·exact h
 ·exact h
 ·exact h
 ·refine ⟨λh=>(by cases h),pH (h.mono ?_)⟩
  intro e w' he
  cases e with
  |returned v=>exact he
  |panicked ch=>exact ((hQ _ _ _).1 ch rfl he).elim
  |outgrown=>obtain ⟨a0,w0,he⟩:=he;exact ((hQ _ _ _).2 rfl he).elim
 ·refine ⟨λh=>(by cases h),λc cs _=> ?_⟩
  obtain ⟨v,w',h1,h2⟩:=h c cs
  exact ⟨v,w',h1,stepsIn_wide.2 h2⟩
 ·exact ((hQ _ _ _).1 _ rfl h).elim
 ·exact h.elim
def VPx (P:Program)(G:aP)(ro:Nat)(o:Oper)(σ:List TV)(T:VT)(K:List TV→VT→Prop):Prop:=
 ∀g w (a:Act) (next:Act→World→Prop) (Q:Exit→Act→World→Prop),RW g T w→GOk G g w→VRs g w σ a.tmps.toList→
  (∀σ' T' g' w' (a':Act),(∃v,a'=a.put o.dst v)→K σ' T'→Evo g w g' w'→RW g' T' w'→VRs g' w' σ' a'.tmps.toList→a'.defers=a.defers→Fix ro g T w T' w'→next a' w')→o.wp P a w next Q
def VPi (P:Program)(G:aP)(ro:Nat)(o:Oper)(σ:List TV)(T:VT)(K:List TV→VT→Prop):Prop:=
 ∀r g w (a:Act) (next:Act→World→Prop) (Q:Exit→Act→World→Prop),RW g T w→GOk G g w→VRs g w σ a.tmps.toList→
  (∀σ' T' g' w' (a':Act),(∃v,a'=a.put o.dst v)→K σ' T'→Evo g w g' w'→RW g' T' w'→VRs g' w' σ' a'.tmps.toList→a'.defers=a.defers→Fix ro g T w T' w'→next a' w')→o.wpIn (ct r) 0 P a w next Q
theorem VPx.toI {G:aP}{ro:Nat}{o:Oper}{σ:List TV}{T:VT}{K:List TV→VT→Prop}(h:VPx P G ro o σ T K)(hd:ci o.op=true):VPi P G ro o σ T K:=
 λr g w a next Q rw0 hG hσ hn=>NT (Q:=λ_ _ _=>False) (λ_ _ _=>⟨λ_ _ h=>h,λ_ h=>h⟩) hd (h g w a next _ rw0 hG hσ hn)
def mk (g:Gh)(id:Nat):Deferred:={target:=.collected ((g.obj id).getD 0),args:= #[]}
abbrev KX:=Exit→List TV→VT→List Nat→Prop
def KP (g:Gh)(rd r:Option Nat):Prop:=match rd with
 |some id=>r.isSome=true∧g.obj id=r
 |none=>r=none
def VWx (P:Program)(G:aP)(rd:Option Nat)(ro:Nat)(c:Code)(σ:List TV)(T:VT)(D:List Nat)(Q:KX):Prop:=
 ∀r g w (a:Act),RW g T w→GOk G g w→VRs g w σ a.tmps.toList→a.defers=D.map (mk g)→(∀id∈D,(g.obj id).isSome=true)→KP g rd r→
  c.wpIn (ct r) 0 P (λe a' w'=>∃g' σ' T' D',Q e σ' T' D'∧Evo g w g' w'∧RW g' T' w'∧VRs g' w' σ' a'.tmps.toList∧a'.defers=D'.map (mk g')∧(∀id∈D',(g'.obj id).isSome=true)∧Fix ro g T w T' w') a w
def VCx (P:Program)(G:aP)(ro:Nat)(f:FuncId)(xs:List TV)(T:VT)(Q:TV→VT→Prop):Prop:=
 ∀g w us,RW g T w→GOk G g w→VRs g w xs us→Calls P f us.toArray w λe w'=>∃v x g' T',e=.returned v∧Q x T'∧Evo g w g' w'∧RW g' T' w'∧VR g' w' x v∧Fix ro g T w T' w'
def Vk (P:Program)(G:aP)(ro id:Nat)(xs:List TV)(T:VT)(Q:TV→VT→Prop):Prop:=
 ∀g w us,RW g T w→GOk G g w→VRs g w xs us→∃b fn tmps asg body,g.obj id=some b∧(yield b us.toArray).run P w=.ok (.round b fn tmps asg body) w∧
  RoundIn wide 0 P b fn tmps asg body w λe w'=>∃v x g' T',e=.returned v∧Q x T'∧Evo g w g' w'∧RW g' T' w'∧VR g' w' x v∧Fix ro g T w T' w'
theorem mt {g g':Gh}{w w':World}(e:Evo g w g' w'){D:List Nat}(h:∀id∈D,(g.obj id).isSome=true):D.map (mk g')=D.map (mk g):=by
 apply List.map_congr_left
 intro id hid
 obtain ⟨b,hb⟩:=isSome_iff_exists.1 (h id hid)
 simp [mk,hb,e.obj id b hb]
theorem fR {g g':Gh}{w w':World}(e:Evo g w g' w'){D:List Nat}(h:∀id∈D,(g.obj id).isSome=true):∀id∈D,(g'.obj id).isSome=true:=by
 intro id hid
 obtain ⟨b,hb⟩:=isSome_iff_exists.1 (h id hid)
 rw [e.obj id b hb];rfl
theorem BP {g g':Gh}{w w':World}(e:Evo g w g' w'){rd r:Option Nat}(h:KP g rd r):KP g' rd r:=by
 cases rd with
 |none=>exact h
 |some id=>
  obtain ⟨h1,h2⟩:=h
  obtain ⟨b,hb⟩:=isSome_iff_exists.1 h1
  subst hb
  exact ⟨h1,e.obj id b h2⟩
theorem VCx.mono {G:aP}{ro:Nat}{f:FuncId}{xs:List TV}{T:VT}{Q Q':TV→VT→Prop}(h:VCx P G ro f xs T Q)(k:∀x T',Q x T'→Q' x T'):VCx P G ro f xs T Q':=
 λg w us r hG hx=>Calls.mono (h g w us r hG hx) λe w' ⟨v,x,g',T',h1,h2,h3⟩=>⟨v,x,g',T',h1,k _ _ h2,h3⟩
theorem VWx.mono {G:aP}{rd:Option Nat}{ro:Nat}{c:Code}{σ:List TV}{T:VT}{D:List Nat}{Q Q':KX}(h:VWx P G rd ro c σ T D Q)(k:∀e σ T D,Q e σ T D→Q' e σ T D):VWx P G rd ro c σ T D Q':=
 λr g w a rw0 hG hσ hd hD hr=>wpIn_mono (h r g w a rw0 hG hσ hd hD hr) λe a' w' ⟨g',σ',T',D',hq,h⟩=>⟨g',σ',T',D',k _ _ _ _ hq,h⟩
theorem VPx.call {G:aP}{ro:Nat}{o:Oper}{fo:Operand}{args:Array Operand}{ats:Array TypeId}{σ:List TV}{T:VT}{K:List TV→VT→Prop}{f:FuncId}{fn:Func}{fi ca:List TV}
  (ho:o.op=.call ⟨.value fo,args,ats⟩) (hf:bb G σ fo=.fn (.func f) fi ca) (hfn:P.funcs[f]?=some fn) (hb:fn.body.isSome=true) (hnm:(fn.name== "runtime.NumGoroutine")=false)
  (hc:VCx P G ro f (fi++args.toList.map (bb G σ)++ca) T λx T'=>K (bv σ o.dst x) T'):VPx P G ro o σ T K:=by
 intro g w a next Q' r hG hσ hn
 have h1:=eW hG hσ fo
 rw [hf] at h1
 obtain ⟨us,vs,h2,h3,h4⟩:=h1.fn_inv
 have hrun:=Ky ho h2 hfn hb hnm w
 have hargs:=(h3.app (jq (eW hG hσ) args.toList)).app h4
 unfold wp
 rw [hrun]
 refine mono (hc g w _ r hG hargs) ?_
 rintro e w' ⟨v,x,g',T',rfl,hq,e',r',hv,hx⟩
 exact hn _ _ g' w' _ ⟨_,rfl⟩ hq e' r' (gz (hσ.mono e') o.dst hv) (cp _ _ _) hx
theorem NU {o:Oper}{fo:Operand}{args:Array Operand}{ats:Array TypeId}(ho:o.op=.call ⟨.value fo,args,ats⟩){ρ:Operand→Value}{b:Nat}(hf:ρ fo=.func (.yield b) #[] #[])(w:World):
  (execOp ρ o).run P w=(yield b (args.toList.map ρ).toArray).run P w:=by
 obtain ⟨dst,op,ty,pos,af,gd⟩:=o
 simp only at ho;subst ho
 simp [execOp,resolve,hf,Deferred.ofValue,invoke,yB]
theorem VPi.yld {G:aP}{ro:Nat}{o:Oper}{fo:Operand}{args:Array Operand}{ats:Array TypeId}{σ:List TV}{T:VT}{K:List TV→VT→Prop}{id:Nat}
  (ho:o.op=.call ⟨.value fo,args,ats⟩) (hf:bb G σ fo=.yld id) (hc:Vk P G ro id (args.toList.map (bb G σ)) T λx T'=>K (bv σ o.dst x) T'):VPi P G ro o σ T K:=by
 intro r g w a next Q' rw0 hG hσ hn
 have h1:=eW hG hσ fo
 rw [hf] at h1
 obtain ⟨b,hb,hu⟩:=h1.yld_inv
 obtain ⟨b',fn,tmps,asg,body,hb',hrun,hround⟩:=hc g w _ rw0 hG (jq (eW hG hσ) args.toList)
 rw [hb] at hb';injection hb' with hb';subst hb'
 refine ⟨λ_ _=>trivial,?_⟩
 rw [semAt_eq _ _ _ (by rw [ho];intro c hc;cases hc),NU ho hu,hrun]
 refine ⟨λh=>(by cases h),?_⟩
 refine RoundIn.mono (F:=ct r) (show RoundIn (ct r) 0 P b fn tmps asg body w _ from hround) ?_
 rintro e w' ⟨v,x,g',T',rfl,hq,e',r',hv,hx⟩
 exact hn _ _ g' w' _ ⟨_,rfl⟩ hq e' r' (gz (hσ.mono e') o.dst hv) (cp _ _ _) hx
end
section
variable {P:Program}{g:Gh}{T:VT}{w:World}
def BQ (P:Program)(T:VT)(t:TypeId)(x:TV):Option (TV × VT):=match P.underlying t,x with
 |some (.map _ _),.val (.map none)=>some (.ptr T.objs.length 0,{T with objs:=T.objs++ [.iter (.val (.map none)) 0 [] 0]})
 |some (.map _ _),.map id=>match T.objs[id]? with
  |some (.map _ _ _ ck)=>some (.ptr T.objs.length 0,{T with objs:=T.objs++ [.iter (.map id) ck [] ck]})
  |_=>none
 |some .string,.val (.string s)=>some (.ptr T.objs.length 0,{T with objs:=T.objs++ [.siter s 0]})
 |_,_=>none
theorem Ic (r:RW g T w){t:TypeId}{x y:TV}{u:Value}{T':VT}(h:BQ P T t x=some (y,T'))(hx:VR g w x u):Does P g T w (Instr.range t u) y T'∧T'.objs.take T.objs.length=T.objs:=by
 have go:∀(ob:Obj) (o:VO),o.live=true→(∀g,RW g T w→OR g w w.heap.size o→OR g w w.heap.size o)→(Instr.range t u).run P w=.ok (.pointer (some ⟨w.heap.size,0,none⟩)) (w.alloc ob)→(OR g (w.alloc ob) w.heap.size o)→
   Does P g T w (Instr.range t u) (.ptr T.objs.length 0) {T with objs:=T.objs++ [o]}:=by
  intro ob o hl _ hrun hor
  obtain ⟨g',r',e',hg,_⟩:=r.new ob hl hor
  exact ⟨_,g',_,hrun,.ptr hg,e',r',Same.of_gr r ((Gr.refl w).alloc _)⟩
 unfold BQ at h
 split at h
 ·rename_i hu
  injection h with h;injection h with e1 e2;subst e1 e2
  rw [hx.val_inv]
  rw [hx.val_inv] at go
  exact ⟨go (.mapIter none 0 #[] 0) _ rfl (λ_ _ h=>h) (by simp [Instr.range,run_underlying hu,newObj,Sem.run]) ⟨none,heap_alloc_new w _,.val _⟩,by simp⟩
 ·rename_i id hu
  split at h
  ·rename_i sh look es ck hid
   injection h with h;injection h with e1 e2;subst e1 e2
   obtain ⟨b,hb,rfl⟩:=hx.map_inv
   obtain ⟨b',h1,⟨ms,h2,_⟩,_⟩:=r.obj id _ hid rfl
   rw [hb] at h1;injection h1 with h1;subst h1
   exact ⟨go (.mapIter (some b) ck #[] ck) _ rfl (λ_ _ h=>h) (by simp [Instr.range,run_underlying hu,getObj,newObj,Sem.run,h2]) ⟨some b,heap_alloc_new w _,.map hb⟩,by simp⟩
  ·cases h
 ·rename_i s hu
  injection h with h;injection h with e1 e2;subst e1 e2
  rw [hx.val_inv]
  rw [hx.val_inv] at go
  exact ⟨go (.stringIter s 0) _ rfl (λ_ _ h=>h) (by simp [Instr.range,run_underlying hu,newObj,Sem.run]) (heap_alloc_new w _),by simp⟩
 ·cases h
structure ERel (g:Gh) (w:World) (es:List (Value × TV × Nat)) (ms:List MapEntry):Prop where
 len:ms.length=es.length
 at_:∀(j:Nat) e m,es[j]?=some e→ms[j]?=some m→m.key=e.1∧VR g w e.2.1 m.val∧m.born=e.2.2
theorem ERel.of {es:List (Value × TV × Nat)}{ms:List MapEntry}(h1:ms.map (·.key)=es.map (·.1))(h2:VRs g w (es.map (·.2.1)) (ms.map (·.val)))(h3:ms.map (·.born)=es.map (·.2.2)):ERel g w es ms where
 len:=by simpa using congrArg length h1
 at_ j e m he hm:=by
  refine ⟨?_,?_,?_⟩
  ·have:=congrArg (·[j]?) h1;simpa [he,hm] using this
  ·exact h2.2 j _ _ (by simp [he]) (by simp [hm])
  ·have:=congrArg (·[j]?) h3;simpa [he,hm] using this
theorem ERel.nil:ERel g w [] []:=⟨rfl,λj e m h=>by simp at h⟩
theorem ERel.cons {e:Value × TV × Nat}{m:MapEntry}{es:List (Value × TV × Nat)}{ms:List MapEntry}(h:m.key=e.1∧VR g w e.2.1 m.val∧m.born=e.2.2)(k:ERel g w es ms):ERel g w (e::es) (m::ms):=
 ⟨by simp [k.len],λj e' m' he hm=>by
  cases j with
  |zero=>simp at he hm;subst he hm;exact h
  |succ j=>exact k.at_ j e' m' (by simpa using he) (by simpa using hm)⟩
theorem ERel.tail {e:Value × TV × Nat}{m:MapEntry}{es:List (Value × TV × Nat)}{ms:List MapEntry}(k:ERel g w (e::es) (m::ms)):ERel g w es ms:=
 ⟨by simpa using k.len,λj e' m' he hm=>k.at_ (j+1) e' m' (by simpa using he) (by simpa using hm)⟩
theorem ERel.filter (p:Nat→Bool):∀{es:List (Value × TV × Nat)} {ms:List MapEntry},ERel g w es ms→ERel g w (es.filter λe=>p e.2.2) (ms.filter λm=>p m.born)
 |[],[],_=>by simpa using ERel.nil
 |[],_::_,k=>by have:=k.len;simp at this
 |_::_,[],k=>by have:=k.len;simp at this
 |e::es,m::ms,k=>by
  have h0:=k.at_ 0 e m rfl rfl
  have ih:=ERel.filter p k.tail
  simp only [List.filter_cons,h0.2.2]
  cases p e.2.2 with
  |true=>exact .cons h0 ih
  |false=>exact ih
theorem ERel.app {es es':List (Value × TV × Nat)}{ms ms':List MapEntry}(h:ERel g w es ms)(k:ERel g w es' ms'):ERel g w (es++es') (ms++ms'):=
 ⟨by simp [h.len,k.len],λj e m he hm=>by
  rcases lt_or_ge j es.length with hj | hj
  ·rw [List.getElem?_append_left hj] at he
   rw [List.getElem?_append_left (by rw [h.len];exact hj)] at hm
   exact h.at_ j e m he hm
  ·rw [List.getElem?_append_right hj] at he
   rw [List.getElem?_append_right (by rw [h.len];exact hj),h.len] at hm
   exact k.at_ _ e m he hm⟩
def BS {α:Type}(k:α→Prop):List α→Prop
 |[]=>True
 |[a]=>k a
 |a::b::l=>k a∧BS k (b::l)
theorem Ew {α:Type}{k:α→Prop}:∀{l:List α},BS k l→∀a∈l,k a
 |[],_,a,h=>by cases h
 |[x],h,a,ha=>by simp at ha;subst ha;exact h
 |x::y::l,h,a,ha=>by
  simp only [BS] at h
  rcases mem_cons.1 ha with rfl | ha
  ·exact h.1
  ·exact Ew h.2 a ha
def cQ (since:Nat)(seen:List Nat)(es:List (Value × TV × Nat)):List (Value × TV × Nat):=es.filter λe=> !(seen.contains e.2.2)&&decide (e.2.2<since)
def jy (since:Nat)(seen:List Nat)(es:List (Value × TV × Nat)):List (Value × TV × Nat):=es.filter λe=> !(seen.contains e.2.2)&& !(decide (e.2.2<since))
def j8 (seen:List Nat)(stepped:Nat)(es:List (Value × TV × Nat)):Bool:= !seen.isEmpty&& !es.isEmpty&&es.all λe=>decide (stepped≤e.2.2)
def VT.setIter (T:VT)(i:Nat)(m:TV)(since:Nat)(seen:List Nat)(stepped:Nat):VT:={T with objs:=T.objs.set i (.iter m since seen stepped)}
def sD (T:VT)(x:TV):Option (Nat × List (TV × VT)):=match x with
 | .ptr i 0=>match T.objs[i]? with
  |some (.iter (.val (.map none)) _ _ _)=>some (i,[(.tup [.val (.bool false)],T)])
  |some (.iter (.map m) since seen stepped)=>match T.objs[m]? with
   |some (.map _ _ es ck)=>bif j8 seen stepped es then none else
     some (i,(bif (cQ since seen es).isEmpty then [(.tup [.val (.bool false)],T)] else [])++
      ((cQ since seen es)++(jy since seen es)).map λe=>(.tup [.val (.bool true),.val e.1,e.2.1],T.setIter i (.map m) since (seen++ [e.2.2]) ck))
   |_=>none
  |_=>none
 |_=>none
theorem u4 {α β:Type}{l:List α}{l':List β}(h:l.length=l'.length):l.isEmpty=l'.isEmpty:=by cases l<;>cases l' <;>simp at h ⊢
theorem u5 {α:Type}(A:Array α):A.isEmpty=A.toList.isEmpty:=by
 obtain ⟨l⟩:=A
 cases l<;>rfl
theorem F4 (n:Nat)(hn:0<n)(w:World):∃t w',(choose (.mapNext n)).run P w=.ok t w'∧t<n∧Gr w w'∧w'.heap=w.heap:=by
 unfold choose
 by_cases h1:n≤1
 ·refine ⟨0,w,?_,by omega,Gr.refl w,rfl⟩
  simp [Sem.run,forced,h1]
 ·refine ⟨w.tape w.drawn (.mapNext n)%n,w.drew,?_,mod_lt _ hn,(Gr.refl w).drew,rfl⟩
  simp [Sem.run,forced,Question.cut,h1]
theorem Id (r:RW g T w){ro i:Nat}{ty:TypeId}{x:TV}{u:Value}{l:List (TV × VT)}(h:sD T x=some (i,l))(hx:VR g w x u)(hr:ro≤i):
  ∃p∈l,∃v g' w',(Instr.next u false ty).run P w=.ok v w'∧VR g' w' p.1 v∧Evo g w g' w'∧RW g' p.2 w'∧Fix ro g T w p.2 w':=by
 unfold sD at h
 split at h
 ·rename_i i'
  obtain ⟨bi,hbi,rfl⟩:=hx.ptr_inv
  split at h
  ·rename_i since seen stepped hid
   injection h with h;injection h with e1 e2;subst e1 e2
   obtain ⟨b',h1,⟨mb,h2,h3⟩,_⟩:=r.obj _ _ hid rfl
   rw [hbi] at h1;injection h1 with h1;subst h1
   have hmb:mb=none:=by have:=h3.val_inv;injection this
   subst hmb
   exact ⟨_,List.mem_singleton.2 rfl,.tuple #[.bool false],g,w,by simp [Instr.next,getObj,Sem.run,h2],.mk_tup (us:= [.bool false]) (.cons (.val _) (.nil g w)),Evo.refl _ _,r,Fix.refl _ _ _ _⟩
  ·rename_i m since seen stepped hid
   split at h
   ·rename_i sh look es ck hmid
    cases hq:j8 seen stepped es with
    |true=>rw [hq] at h;cases h
    |false=>
     rw [hq] at h
     simp only [cond_false] at h
     injection h with h;injection h with e1 e2
     subst e1
     obtain ⟨b',h1,⟨mb,h2,h3⟩,_⟩:=r.obj _ _ hid rfl
     rw [hbi] at h1;injection h1 with h1;subst h1
     obtain ⟨bm,hbm,hmb⟩:=h3.map_inv
     injection hmb with hmb;subst hmb
     obtain ⟨b2,k1,⟨ms,k2,k3,k4,k5,k6⟩,_⟩:=r.obj m _ hmid rfl
     rw [hbm] at k1;injection k1 with k1;subst k1
     have rel:=ERel.of k3 k4 k5
     have relO:=rel.filter λb=> !(seen.contains b)&&decide (b<since)
     have relN:=rel.filter λb=> !(seen.contains b)&& !(decide (b<since))
     have relC:=relO.app relN
     --the model's candidates
     have hlost:(!seen.toArray.isEmpty&& !ms.isEmpty&&ms.all λe=>decide (e.born≥stepped))=false:=by
      rw [←hq]
      unfold j8
      have e1:ms.all (λe=>decide (e.born≥stepped))=es.all λe=>decide (stepped≤e.2.2):=by
       rw [←Array.all_toList]
       have:=congrArg (λl=>l.all λb=>decide (stepped≤b)) k5
       simpa [List.all_map,Function.comp_def] using this
      have e2:ms.isEmpty=es.isEmpty:=by
       rw [u5];exact u4 rel.len
      rw [e1,e2]
      simp
     have hleft:∀p:Nat→Bool,((ms.filter λe=> !seen.toArray.contains e.born).filter λe=>p e.born).toList=ms.toList.filter λe=> !(seen.contains e.born)&&p e.born:=by
      intro p
      simp only [Array.toList_filter,List.filter_filter,List.contains_toArray]
      congr 1
      funext e
      exact Bool.and_comm _ _
     --what is chosen
     obtain ⟨C,hC⟩:∃C:Array (Option MapEntry),C=(if ((ms.filter λe=> !seen.toArray.contains e.born).filter λe=>decide (e.born<since)).isEmpty then #[none] else #[])++((((ms.filter λe=> !seen.toArray.contains e.born).filter λe=>decide (e.born<since)))++((ms.filter λe=> !seen.toArray.contains e.born).filter λe=>decide (e.born≥since))).map some:=⟨_,rfl⟩
     have hge:(λb:Nat=>decide (b≥since))=λb=> !(decide (b<since)):=by
      funext b
      by_cases hb:b<since
      ·simp [hb]
      ·simp [hb];omega
     have hOe:((ms.filter λe=> !seen.toArray.contains e.born).filter λe=>decide (e.born<since)).isEmpty=(cQ since seen es).isEmpty:=by
      rw [u5,hleft λb=>decide (b<since)]
      exact u4 relO.len
     have hCl:C.toList=(bif (cQ since seen es).isEmpty then [none] else [])++((ms.toList.filter λe=> !(seen.contains e.born)&&decide (e.born<since))++(ms.toList.filter λe=> !(seen.contains e.born)&& !(decide (e.born<since)))).map some:=by
      rw [hC,Array.toList_append,Array.toList_map,Array.toList_append,hleft λb=>decide (b<since)]
      have h7:=hleft λb=>decide (b≥since)
      simp only [congrFun hge] at h7
      rw [show (λe:MapEntry=>decide (e.born≥since))=λe=> !(decide (e.born<since)) from funext λe=>congrFun hge e.born,h7,hOe]
      cases (cQ since seen es).isEmpty<;>simp
     have hpos:0<C.size:=by
      rw [←length_toList,hCl]
      have h8:=relO.len
      cases hoe:(cQ since seen es).isEmpty with
      |true=>simp
      |false=>
       have:(cQ since seen es).length≠0:=by intro h0;simp [List.eq_nil_of_length_eq_zero h0] at hoe
       unfold cQ at this
       rw [cond_false,nil_append,length_map,List.length_append,relO.len]
       omega
     obtain ⟨t,w1,c1,c2,c3,c4⟩:=F4 (P:=P) C.size hpos w
     have hrun0:∀R,((match C[t]? with
       |some (some e)=>(do setObj bi (.mapIter (some bm) since (seen.toArray.push e.born) ck);pure (.tuple #[.bool true,e.key,e.val]):Sem Value)
       |some none=>pure (.tuple #[.bool false])
       |none=>stuck "Next: no such candidate").run P w1=R)→(Instr.next (.pointer (some ⟨bi,0,none⟩)) false ty).run P w=R:=by
      intro R hR
      rw [←hR]
      have g1:(getObj bi).run P w=.ok (.mapIter (some bm) since seen.toArray stepped) w:=by simp [getObj,Sem.run,h2]
      have g2:(getObj bm).run P w=.ok (.map ms ck) w:=by simp [getObj,Sem.run,k2]
      simp only [Instr.next,run_bind,g1,andThen_ok,g2,hlost,Bool.false_eq_true,if_false]
      rw [←hC]
      simp only [c1,andThen_ok]
      generalize C[t]?=oc
      cases oc with
      |none=>rfl
      |some oc=>cases oc<;>rfl
     have hlt:t<C.toList.length:=by simpa using c2
     have hct:C[t]?=C.toList[t]?:=by simp
     rw [hCl] at hct hlt
     have rw1:=r.gr c3
     have ev1:=Evo.of_gr r c3
     have hDone:C[t]?=some none→(cQ since seen es).isEmpty=true→∃p∈l,∃v g' w',(Instr.next (.pointer (some ⟨bi,0,none⟩)) false ty).run P w=.ok v w'∧VR g' w' p.1 v∧Evo g w g' w'∧RW g' p.2 w'∧Fix ro g T w p.2 w':=by
      intro h1 h2'
      rw [←e2,h2']
      exact ⟨_,List.mem_append_left _ (List.mem_singleton.2 rfl),.tuple #[.bool false],g,w1,hrun0 _ (by rw [h1];rfl),.mk_tup (us:= [.bool false]) (.cons (.val _) (.nil g w1)),ev1,rw1,Fix.of_same (Same.of_gr r c3) List.take_length⟩
     have hMore:∀(j:Nat) (e:Value × TV × Nat) (me:MapEntry),(cQ since seen es++jy since seen es)[j]?=some e→((ms.toList.filter λe=> !(seen.contains e.born)&&decide (e.born<since))++(ms.toList.filter λe=> !(seen.contains e.born)&& !(decide (e.born<since))))[j]?=some me→C[t]?=some (some me)→
       ∃p∈l,∃v g' w',(Instr.next (.pointer (some ⟨bi,0,none⟩)) false ty).run P w=.ok v w'∧VR g' w' p.1 v∧Evo g w g' w'∧RW g' p.2 w'∧Fix ro g T w p.2 w':=by
      intro j e me h1 h2' h3'
      obtain ⟨q1,q2,q3⟩:=relC.at_ j e me h1 h2'
      have h2w:w1.heap[bi]?=some (.mapIter (some bm) since seen.toArray stepped):=by rw [c4];exact h2
      have hset:=MapKept.heap_set (w:=w1) (o':=.mapIter (some bm) since (seen.toArray.push me.born) ck) h2w
      have hcs:bI {w1 with heap:=w1.heap.setIfInBounds bi (.mapIter (some bm) since (seen.toArray.push me.born) ck)} bi=bI w1 bi:=by
       unfold bI;simp only [hset.1,h2w]
      have hbi1:g.obj i'=some bi:=hbi
      obtain ⟨_,e0⟩:=rw1.setObj hid rfl hbi1 (o':=.gone) (w':={w1 with heap:=w1.heap.setIfInBounds bi (.mapIter (some bm) since (seen.toArray.push me.born) ck)}) ⟨rfl,rfl,rfl⟩ (by simp) (λc hc=>hset.2 c hc) hcs (λh=>by cases h)
      obtain ⟨r2,e2'⟩:=rw1.setObj hid rfl hbi1 (o':=.iter (.map m) since (seen++ [e.2.2]) ck) (w':={w1 with heap:=w1.heap.setIfInBounds bi (.mapIter (some bm) since (seen.toArray.push me.born) ck)}) ⟨rfl,rfl,rfl⟩ (by simp) (λc hc=>hset.2 c hc) hcs
       (λ_=>⟨some bm,by rw [hset.1,←q3];simp,(h3.mono ev1).mono e0⟩)
      refine ⟨(.tup [.val (.bool true),.val e.1,e.2.1],T.setIter i' (.map m) since (seen++ [e.2.2]) ck),?_,.tuple #[.bool true,me.key,me.val],g,_,hrun0 (.ok (.tuple #[.bool true,me.key,me.val]) {w1 with heap:=w1.heap.setIfInBounds bi (.mapIter (some bm) since (seen.toArray.push me.born) ck)}) ?_,?_,ev1.trans e2',r2,?_⟩
      ·rw [←e2]
       exact List.mem_append_right _ (mem_map.2 ⟨e,mem_of_getElem? h1,rfl⟩)
      ·rw [h3']
       simp [setObj,Sem.run,h2w]
      ·exact .mk_tup (us:= [.bool true,me.key,me.val]) (.cons (.val _) (.cons (by rw [q1];exact .val _) (.cons ((q2.mono ev1).mono e2') (.nil _ _))))
      ·exact (Fix.of_same (Same.of_gr r c3) (T':=T) List.take_length).trans ev1 (df rw1 hid rfl hbi1 hr λc hc=>hset.2 c hc)
     have at_of:∀(j:Nat),j<((ms.toList.filter λe=> !(seen.contains e.born)&&decide (e.born<since))++(ms.toList.filter λe=> !(seen.contains e.born)&& !(decide (e.born<since)))).length→
       ∃(e:Value × TV × Nat) (me:MapEntry),(cQ since seen es++jy since seen es)[j]?=some e∧((ms.toList.filter λe=> !(seen.contains e.born)&&decide (e.born<since))++(ms.toList.filter λe=> !(seen.contains e.born)&& !(decide (e.born<since))))[j]?=some me:=by
      intro j hj
      have hj2:j<(cQ since seen es++jy since seen es).length:=by
       have:=relC.len
       unfold cQ jy
       omega
      exact ⟨_,_,getElem?_eq_getElem hj2,getElem?_eq_getElem hj⟩
     cases hoe:(cQ since seen es).isEmpty with
     |true=>
      rw [hoe] at hct hlt
      simp only [cond_true] at hct hlt
      cases t with
      |zero=>exact hDone (by rw [hct];rfl) hoe
      |succ j=>
       simp only [List.singleton_append,List.getElem?_cons_succ,List.length_cons,length_map] at hct hlt
       obtain ⟨e,me,h1,h2'⟩:=at_of j (by omega)
       exact hMore j e me h1 h2' (by rw [hct,getElem?_map,h2'];rfl)
     |false=>
      rw [hoe] at hct hlt
      simp only [cond_false,nil_append,length_map] at hct hlt
      obtain ⟨e,me,h1,h2'⟩:=at_of t hlt
      exact hMore t e me h1 h2' (by rw [hct,getElem?_map,h2'];rfl)
   ·cases h
  ·cases h
 ·cases h
def qa (T:VT)(x:TV):Option TV:=match x with
 | .ptr i 0=>match T.objs[i]? with
  |some (.iter (.map m) _ seen stepped)=>match T.objs[m]?,seen.getLast? with
   |some (.map _ _ es ck),some st=>bif beq ck stepped then (match es.find? λe=>beq e.2.2 st with
    |some e=>some (.tup [.val e.1,e.2.1])
    |none=>none) else none
   |_,_=>none
  |_=>none
 |_=>none
theorem KQ {es:List (Value × TV × Nat)}{ms:List MapEntry}(h:ERel g w es ms){st:Nat}{e:Value × TV × Nat}(hf:es.find? (λe=>beq e.2.2 st)=some e):∃me,ms.find? (λm=>m.born==st)=some me∧me.key=e.1∧VR g w e.2.1 me.val:=by
 induction es generalizing ms with
 |nil=>simp at hf
 |cons e0 es ih=>
  match ms,h with
  |[],h=>have:=h.len;simp at this
  |m0::ms,h=>
   have h0:=h.at_ 0 e0 m0 rfl rfl
   simp only [List.find?_cons] at hf ⊢
   have hb:(m0.born==st)=beq e0.2.2 st:=by
    rw [h0.2.2]
    cases hq:beq e0.2.2 st with
    |true=>simpa using eq_of_beq_eq_true hq
    |false=>simpa using ne_of_beq_eq_false hq
   rw [hb]
   cases hq:beq e0.2.2 st with
   |true=>rw [hq] at hf;injection hf with hf;subst hf;exact ⟨m0,rfl,h0.1,h0.2.1⟩
   |false=>rw [hq] at hf;exact ih h.tail hf
theorem zL (r:RW g T w){x y:TV}{u:Value}(h:qa T x=some y)(hx:VR g w x u):∃v,VR g w y v∧(Instr.entry u).run P w=.ok v w:=by
 unfold qa at h
 split at h
 ·rename_i i
  obtain ⟨bi,hbi,rfl⟩:=hx.ptr_inv
  split at h
  ·rename_i m since seen stepped hid
   split at h
   ·rename_i sh look es ck st hmid hst
    cases hq:beq ck stepped with
    |false=>rw [hq] at h;cases h
    |true=>
     rw [hq] at h
     have hck:=eq_of_beq_eq_true hq
     subst hck
     simp only [cond_true] at h
     split at h
     ·rename_i e he
      injection h with h;subst h
      obtain ⟨b',h1,⟨mb,h2,h3⟩,_⟩:=r.obj _ _ hid rfl
      rw [hbi] at h1;injection h1 with h1;subst h1
      obtain ⟨bm,hbm,hmb⟩:=h3.map_inv
      injection hmb with hmb;subst hmb
      obtain ⟨b2,k1,⟨ms,k2,k3,k4,k5,k6⟩,_⟩:=r.obj m _ hmid rfl
      rw [hbm] at k1;injection k1 with k1;subst k1
      obtain ⟨me,f1,f2,f3⟩:=KQ (ERel.of k3 k4 k5) he
      refine ⟨.tuple #[me.key,me.val],.mk_tup (us:= [me.key,me.val]) (.cons (by rw [f2];exact .val _) (.cons f3 (.nil g w))),?_⟩
      have g1:(getObj bi).run P w=.ok (.mapIter (some bm) since seen.toArray ck) w:=by simp [getObj,Sem.run,h2]
      have g2:(getObj bm).run P w=.ok (.map ms ck) w:=by simp [getObj,Sem.run,k2]
      have g3:seen.toArray.back?=some st:=by rw [←hst];simp
      have g4:ms.find? (λx=>x.born==st)=some me:=by rw [←f1];simp
      simp [Instr.entry,g1,g2,g3,g4]
     ·cases h
   ·cases h
  ·cases h
 ·cases h
end
def wT:Value→Value→Bool
 | .int k a,.int k' b=>decide (k=k')&&decide (a=b)
 | .bool a,.bool b=>decide (a=b)
 | .string a,.string b=>decide (a=b)
 | .pointer none,.pointer none=>true
 | .slice none a b,.slice none c d=>beq a c&&beq b d
 | .map none,.map none=>true
 | .nilFunc,.nilFunc=>true
 | .nilIface,.nilIface=>true
 |_,_=>false
theorem vP {a b:Value}(h:wT a b=true):a=b:=by
 unfold wT at h
 split at h<;>try simp only [and_eq_true,decide_eq_true_eq] at h
 ·obtain ⟨rfl,rfl⟩:=h;rfl
 ·subst h;rfl
 ·subst h;rfl
 ·rfl
 ·rw [eq_of_beq_eq_true h.1,eq_of_beq_eq_true h.2]
 ·rfl
 ·rfl
 ·rfl
 ·cases h
def F5:Tok→Tok→Bool
 | .none,.none=>true
 | .full,.full=>true
 | .live,.live=>true
 | .tail k e,.tail k' e'=>beq k k' &&beq e e'
 | .past k e,.past k' e'=>beq k k' &&beq e e'
 |_,_=>false
theorem KR {a b:Tok}(h:F5 a b=true):a=b:=by
 unfold F5 at h
 split at h
 ·rfl
 ·rfl
 ·rfl
 ·rw [and_eq_true] at h;rw [eq_of_beq_eq_true h.1,eq_of_beq_eq_true h.2]
 ·rw [and_eq_true] at h;rw [eq_of_beq_eq_true h.1,eq_of_beq_eq_true h.2]
 ·cases h
def F6:Fn→Fn→Bool
 | .func a,.func b=>beq a b
 |_,_=>false
theorem Ex {a b:Fn}(h:F6 a b=true):a=b:=by
 unfold F6 at h
 split at h
 ·rw [eq_of_beq_eq_true h]
 ·cases h
mutual
def iW:TV→TV→Bool
 | .val a,.val b=>wT a b
 | .ptr i o,.ptr j p=>beq i j&&beq o p
 | .vec s es t,.vec s' es' t'=>beq s s' &&F5 t t' &&qb es es'
 | .elt cs,.elt ds=>mg cs ds
 | .sl a b c d,.sl a' b' c' d'=>beq a a' &&beq b b' &&beq c c' &&beq d d'
 | .row a b c d,.row a' b' c' d'=>beq a a' &&beq b b' &&beq c c' &&beq d d'
 | .agg cs,.agg ds=>mg cs ds
 | .tup cs,.tup ds=>mg cs ds
 | .fn f a b,.fn g c d=>F6 f g&&mg a c&&mg b d
 | .ifc t x,.ifc u y=>beq t u&&iW x y
 | .map i,.map j=>beq i j
 | .dead,.dead=>true
 |_,_=>false
def mg:List TV→List TV→Bool
 |[],[]=>true
 |x::l,y::m=>iW x y&&mg l m
 |_,_=>false
def qb:List (List TV)→List (List TV)→Bool
 |[],[]=>true
 |x::l,y::m=>mg x y&&qb l m
 |_,_=>false
end
mutual
theorem yM:∀(x y:TV),iW x y=true→x=y
 | .val a,y,h=>by cases y<;>simp only [iW] at h<;>first | rw [vP h] | (cases h;done)
 | .ptr i o,y,h=>by
  cases y<;>simp only [iW,and_eq_true] at h<;>first | rw [eq_of_beq_eq_true h.1,eq_of_beq_eq_true h.2] | (cases h;done)
 | .vec s es t,y,h=>by
  cases y<;>simp only [iW,and_eq_true] at h<;>first | rw [eq_of_beq_eq_true h.1.1,KR h.1.2,sE _ _ h.2] | (cases h;done)
 | .elt cs,y,h=>by cases y<;>simp only [iW] at h<;>first | rw [j9 _ _ h] | (cases h;done)
 | .sl a b c d,y,h=>by
  cases y<;>simp only [iW,and_eq_true] at h<;>first | rw [eq_of_beq_eq_true h.1.1.1,eq_of_beq_eq_true h.1.1.2,eq_of_beq_eq_true h.1.2,eq_of_beq_eq_true h.2] | (cases h;done)
 | .row a b c d,y,h=>by
  cases y<;>simp only [iW,and_eq_true] at h<;>first | rw [eq_of_beq_eq_true h.1.1.1,eq_of_beq_eq_true h.1.1.2,eq_of_beq_eq_true h.1.2,eq_of_beq_eq_true h.2] | (cases h;done)
 | .agg cs,y,h=>by cases y<;>simp only [iW] at h<;>first | rw [j9 _ _ h] | (cases h;done)
 | .tup cs,y,h=>by cases y<;>simp only [iW] at h<;>first | rw [j9 _ _ h] | (cases h;done)
 | .fn f a b,y,h=>by
  cases y<;>simp only [iW,and_eq_true] at h<;>first | rw [Ex h.1.1,j9 _ _ h.1.2,j9 _ _ h.2] | (cases h;done)
 | .ifc t x,y,h=>by
  cases y<;>simp only [iW,and_eq_true] at h<;>first | rw [eq_of_beq_eq_true h.1,yM _ _ h.2] | (cases h;done)
 | .map i,y,h=>by cases y<;>simp only [iW] at h<;>first | rw [eq_of_beq_eq_true h] | (cases h;done)
 | .yld i,y,h=>by cases y<;>simp only [iW] at h<;>(cases h;done)
 | .dead,y,h=>by cases y<;>simp only [iW] at h<;>first | rfl | (cases h;done)
theorem j9:∀(x y:List TV),mg x y=true→x=y
 |[],y,h=>by cases y<;>simp only [mg] at h<;>first | rfl | (cases h;done)
 |x::l,y,h=>by
  cases y<;>simp only [mg,and_eq_true] at h<;>first | rw [yM _ _ h.1,j9 _ _ h.2] | (cases h;done)
theorem sE:∀(x y:List (List TV)),qb x y=true→x=y
 |[],y,h=>by cases y<;>simp only [qb] at h<;>first | rfl | (cases h;done)
 |x::l,y,h=>by
  cases y<;>simp only [qb,and_eq_true] at h<;>first | rw [j9 _ _ h.1,sE _ _ h.2] | (cases h;done)
end
section
variable {P:Program}{ops:Array Oper}{r:Option Nat}
abbrev HS:=Array Bool→World→Prop
def YieldsS (P:Program)(ops:Array Oper)(S:World→Prop)(o:Oper)(v:Value)(a:Act):Prop:=
 (wanted o (yielded ops a.tmps)=true∧∀w,S w→(execOp a.eval o).run P w=.ok (.value v) w)∨
 (wanted o (yielded ops a.tmps)=false∧v=undef)
theorem YieldsS.wpOpIn {S:World→Prop}{Q:Exit→Act→World→Prop}{i:Nat}{o:Oper}{v:Value}{a:Act}(hd:ci o.op=true)(hi:ops[i]?=some o)(hy:YieldsS P ops S o v a)
  {K:Act→World→Prop} {w:World} (hS:S w) (h:K (a.put o.dst v) w):wpOpIn (ct r) 0 P ops Q i K a w:=by
 have hne:∀c,o.op≠ .defer c:=λc hc=>by rw [hc] at hd;cases hd
 unfold Go.wpOpIn
 simp only [hi]
 rcases hy with ⟨hw,hv⟩ | ⟨hw,rfl⟩
 ·rw [if_pos hw]
  refine ⟨λ_ _=>trivial,?_⟩
  rw [semAt_eq _ _ _ hne,hv w hS]
  exact h
 ·rw [if_neg (by rw [hw];exact Bool.false_ne_true)]
  exact ⟨λ_ _=>trivial,h⟩
theorem YieldsS.of_same {S:World→Prop}{o:Oper}{v:Value}{a a':Act}(hy:YieldsS P ops S o v a)(he:execOp a'.eval o=execOp a.eval o)
  (hw:wanted o (yielded ops a'.tmps)=wanted o (yielded ops a.tmps)):YieldsS P ops S o v a':=by
 unfold YieldsS at*
 rw [he,hw]
 exact hy
theorem D9 {S:World→Prop}{Q:Exit→Act→World→Prop}{j:Nat}{oi oj:Oper}{v:Value}(hdj:ci oj.op=true)(hj:ops[j]?=some oj)(hap:oi.apart ops oj=true)
  (hsi:∀cs b,oi.op≠ .select cs b) (hsj:∀cs b,oj.op≠ .select cs b)
  (hQ:∀e a w,e≠ .normal→¬Q e a w) {K:Act→World→Prop} {a:Act} {w:World}
  (hy:YieldsS P ops S oi v a) (h:wpOpIn (ct r) 0 P ops Q j K (a.put oi.dst v) w):
  wpOpIn (ct r) 0 P ops Q j (λa' w'=>YieldsS P ops S oi v a'∧K (a'.put oi.dst v) w') a w:=by
 have hne:∀c,oj.op≠ .defer c:=λc hc=>by rw [hc] at hdj;cases hdj
 obtain ⟨h1,h2,h3⟩:=Oper.apart_spec hap
 have ap:∀(a:Act),YieldsS P ops S oi v a→∀u,YieldsS P ops S oi v (a.put oj.dst u):=λa hy u=>
  hy.of_same (execOp_put oi hsi a oj.dst u h3) (wanted_put oi a oj.dst u h3)
 have keepD:∀d,YieldsS P ops S oi v {a with defers:=d::a.defers}:=λd=>hy.of_same rfl rfl
 unfold wpOpIn at*
 simp only [hj] at*
 rw [wanted_put oj a oi.dst v h1] at h
 split
 ·rename_i hw
  simp only [hw,if_true] at h
  unfold Oper.wpIn at*
  refine ⟨λ_ _=>trivial,?_⟩
  have h:=h.2
  rw [semAt_eq _ _ _ hne] at h ⊢
  rw [execOp_put oj hsj a oi.dst v h1] at h
  generalize (execOp a.eval oj).run P w=r at*
  cases r with
  |ok n w'=>
   cases n<;>simp only [uponIn] at h ⊢
   case value u=>exact ⟨ap a hy u,by rw [←put_comm a v u h2];exact h⟩
   case skip=>exact ⟨ap a hy _,by rw [←put_comm a v undef h2];exact h⟩
   case defer d=>
    refine ⟨ap _ (keepD d) _,?_⟩
    rw [←put_comm _ v undef h2,←Act.put_defers]
    exact h
   case enter f args=>
    refine ⟨h.1,CallsIn.mono h.2 λe w'' he=> ?_⟩
    cases e with
    |returned u=>exact ⟨ap a hy u,by rw [←put_comm a v u h2];exact he⟩
    |panicked c=>exact (hQ _ _ _ (by simp) he).elim
    |outgrown=>exact he
   case row row args=>exact ⟨h.1,RowsIn.mono h.2 λu w'' he=>⟨ap a hy u,by rw [←put_comm a v u h2];exact he⟩⟩
   case round l f tmps asg body=>
    refine ⟨h.1,RoundIn.mono h.2 λe w'' he=> ?_⟩
    cases e with
    |returned u=>exact ⟨ap a hy u,by rw [←put_comm a v u h2];exact he⟩
    |panicked c=>exact (hQ _ _ _ (by simp) he).elim
    |outgrown=>exact he
  |halt x w'=>
   cases x<;>simp only [uponIn] at h ⊢
   case panic u=>exact (hQ _ _ _ (by simp) h).elim
 ·rename_i hw
  simp only [hw] at h
  exact ⟨λ_ _=>trivial,ap a hy _,by rw [←put_comm a v undef h2];exact h.2⟩
def ib (P:Program)(r:Option Nat)(ops:Array Oper)(Q:Exit→Act→World→Prop)(S:HS):Nat→Array Bool→Act→World→Prop
 | 0,listed,a,w=>ready .any ops listed= []∧Q .normal a w
 |fuel+1,listed,a,w=>
  (ready .any ops listed= []→Q .normal a w)∧
  ∀i∈ready .any ops listed,wpOpIn (ct r) 0 P ops Q i (λa' w'=>S (listed.setIfInBounds i true) w'∧ib P r ops Q S fuel (listed.setIfInBounds i true) a' w') a w
theorem wU {Q:Exit→Act→World→Prop}{S:HS}:∀(fuel:Nat) (listed:Array Bool) (a:Act) (w:World),ib P r ops Q S fuel listed a w→wpAnyIn (ct r) 0 P .any ops Q fuel listed a w
 | 0,_,_,_,h=>h
 |fuel+1,_,_,_,h=>⟨h.1,λi hi=>wpOpIn_mono (λa' w' h'=>wU fuel _ a' w' h'.2) (h.2 i hi)⟩
def Closed (ops:Array Oper)(listed:Array Bool):Prop:=∀(k:Nat) o,ops[k]?=some o→listed.getD k false=true→∀e∈o.after,binds .any e=true→listed.getD e.on false=true
theorem Closed.set {listed:Array Bool}(h:Closed ops listed){j:Nat}(hj:j∈ready .any ops listed):Closed ops (listed.setIfInBounds j true):=by
 obtain ⟨_,oj,hoj,hall⟩:=mem_ready.1 hj
 intro k o ho hk e he hb
 by_cases hkj:j=k
 ·subst hkj
  rw [hoj] at ho;injection ho with ho;subst ho
  exact getD_set_true (hall e he hb)
 ·rw [getD_set_ne false hkj] at hk
  exact getD_set_true (h k o ho hk e he hb)
def anc (ops:Array Oper):Nat→Nat→Nat→Bool
 | 0,_,_=>false
 |n+1,b,i=>match ops[b]? with
  |some o=>(o.after.toList.any λe=>binds .any e&&beq e.on i) || (o.after.toList.any λe=>binds .any e&&anc ops n e.on i)
  |none=>false
theorem kV {listed:Array Bool}(hc:Closed ops listed):∀(n b i:Nat),anc ops n b i=true→(∀o,ops[b]?=some o→∀e∈o.after,binds .any e=true→listed.getD e.on false=true)→listed.getD i false=true
 | 0,_,_,h,_=>by simp [anc] at h
 |n+1,b,i,h,hb=>by
  simp only [anc] at h
  split at h
  ·rename_i o ho
   simp only [Bool.or_eq_true,List.any_eq_true,and_eq_true] at h
   rcases h with ⟨e,he,h1,h2⟩ | ⟨e,he,h1,h2⟩
   ·have:=eq_of_beq_eq_true h2
    rw [←this];exact hb o ho e (mem_toList_iff.1 he) h1
   ·have h3:=hb o ho e (mem_toList_iff.1 he) h1
    exact kV hc n e.on i h2 λo' ho' e' he' hb'=>hc e.on o' ho' h3 e' he' hb'
  ·cases h
theorem sF {Q:Exit→Act→World→Prop}{S:HS}{Sr:World→Prop}{i:Nat}{oi:Oper}{v:Value}(hi:ops[i]?=some oi)(hd:∀(j:Nat) o,ops[j]?=some o→ci o.op=true)(hsel:∀(j:Nat) (o:Oper) cs b,ops[j]?=some o→o.op≠ .select cs b)
    (hQ:∀e a w,e≠ .normal→¬Q e a w) (hSS:∀(listed:Array Bool) w,Closed ops listed→listed.getD i false=false→S (listed.setIfInBounds i true) w→Sr w) (hS2:∀(listed:Array Bool) w,S (listed.setIfInBounds i true) w→S listed w):
    ∀(fuel:Nat) (listed:Array Bool) (a:Act) (w:World),Closed ops listed→
      (∀j oj,ops[j]?=some oj→j≠i→listed.getD j true=false→(∀e∈oj.after,binds .any e=true→e.on≠i)→oi.apart ops oj=true)→
      i∈ready .any ops listed→YieldsS P ops Sr oi v a→Sr w→S (listed.setIfInBounds i true) w→
      ib P r ops Q S fuel (listed.setIfInBounds i true) (a.put oi.dst v) w→ib P r ops Q S (fuel+1) listed a w:=by
  intro fuel
  induction fuel with
  |zero=>
    intro listed a w _ _ hr hy hS hS0 H
    refine ⟨λh=>(by rw [h] at hr;cases hr),λj hj=> ?_⟩
    by_cases hji:j=i
    · subst hji;exact hy.wpOpIn (hd _ _ hi) hi hS ⟨hS0,H⟩
    · have:=ready_mono hj hji
      rw [H.1] at this
      cases this
  |succ fuel ih=>
    intro listed a w hc hfree hr hy hS hS0 H
    refine ⟨λh=>(by rw [h] at hr;cases hr),λj hj=> ?_⟩
    by_cases hji:j=i
    · subst hji;exact hy.wpOpIn (hd _ _ hi) hi hS ⟨hS0,H⟩
    · have h1:=H.2 j (ready_mono hj hji)
      obtain ⟨hjun,oj,hoj,hall⟩:=mem_ready.1 hj
      have hiun:=(mem_ready.1 hr).1
      have hnot:∀e∈oj.after,binds .any e=true→e.on≠i:=λe he hb heq=>by
        have h1:=hall e he hb
        rw [heq] at h1
        rcases lt_or_ge i listed.size with h' | h'
        · simp [h'] at hiun h1;rw [hiun] at h1;cases h1
        · simp [Array.getElem?_eq_none h'] at h1
      have h2:=D9 (hd _ _ hoj) hoj (hfree j oj hoj hji hjun hnot) (λcs b=>hsel i oi cs b hi) (λcs b=>hsel j oj cs b hoj) hQ hy h1
      have hfree':∀k ok,ops[k]?=some ok→k≠i→(listed.setIfInBounds j true).getD k true=false→
          (∀e∈ok.after,binds .any e=true→e.on≠i)→oi.apart ops ok=true:=λk ok hk hki hun hno=>by
        refine hfree k ok hk hki ?_ hno
        by_cases hjk:j=k
        · subst hjk;exact hjun
        · rw [getD_set_ne true hjk] at hun;exact hun
      have hc':=hc.set hj
      have hir:=ready_mono hr (Ne.symm hji)
      have hiun':(listed.setIfInBounds j true).getD i false=false:=by
        have h0:=(mem_ready.1 hir).1
        rcases lt_or_ge i (listed.setIfInBounds j true).size with h' | h'
        · have h'' :i<listed.size:=by simpa using h'
          rw [Array.getD_eq_getD_getElem?] at h0 ⊢
          rw [Array.getElem?_eq_getElem h'] at h0 ⊢
          exact h0
        · rw [Array.getD_eq_getD_getElem?,Array.getElem?_eq_none h'];rfl
      refine wpOpIn_mono (λa' w' h3=> ?_) h2
      obtain ⟨h4,h5,h6⟩:=h3
      rw [Array.setIfInBounds_comm _ _ (Ne.symm hji)] at h6 h5
      exact ⟨hS2 _ _ h5,ih (listed.setIfInBounds j true) a' w' hc' hfree' hir h4 (hSS _ _ hc' hiun' h5) h5 h6⟩
theorem mM {Q:Exit→Act→World→Prop}{S S':HS}{i:Nat}(hS:∀(L:Array Bool) w,L.getD i false=true→S L w):∀(fuel:Nat) (listed:Array Bool) (a:Act) (w:World),listed.getD i false=true→
  ib P r ops Q S' fuel listed a w→ib P r ops Q S fuel listed a w
 | 0,_,_,_,_,h=>h
 |fuel+1,listed,a,w,hl,h=>⟨h.1,λj hj=>wpOpIn_mono (λa' w' h'=>⟨hS _ _ (getD_set_true hl),mM hS fuel _ a' w' (getD_set_true hl) h'.2⟩) (h.2 j hj)⟩
theorem u6 {Q:Exit→Act→World→Prop}{S:HS}{i fuel:Nat}{listed:Array Bool}{a:Act}{w:World}(hr:ready .any ops listed= [i])
  (h:wpOpIn (ct r) 0 P ops Q i (λa' w'=>S (listed.setIfInBounds i true) w'∧ib P r ops Q S fuel (listed.setIfInBounds i true) a' w') a w):ib P r ops Q S (fuel+1) listed a w:=by
 refine ⟨λh0=> ?_,λj hj=> ?_⟩
 ·rw [hr] at h0;cases h0
 ·rw [hr] at hj
  simp at hj;subst hj;exact h
inductive PK where
 |pk0
 |pk1
 |pk2
 |pk3
def Uj:PK→Bool
 | .pk3=>true
 |_=>false
def dU (plan:List (Nat × PK)):List Nat:=(plan.filter λp=>Uj p.2).map (·.1)
def inList:List Nat→Nat→Bool
 |[],_=>false
 |a::l,i=>beq a i || inList l i
theorem fS:∀{l:List Nat} {i:Nat},inList l i=false→i∉l
 |[],_,_=>by simp
 |a::l,i,h=>by
  simp only [inList,Bool.or_eq_false_iff] at h
  have h1:=ne_of_beq_eq_false h.1
  have h2:=fS h.2
  simp only [mem_cons,not_or]
  exact ⟨λe=>h1 e.symm,h2⟩
def nD (ops:Array Oper):List (Nat × PK)→Array Bool→Bool
 |[],listed=>(ready .any ops listed).isEmpty
 | (i,k)::l,listed=>(match k with
   | .pk0=>free .any ops listed i&&(ready .any ops listed).contains i
   | .pk1=>free .any ops listed i&&(ready .any ops listed).contains i&&(dU l).all λb=>anc ops ops.size b i
   |_=>ready .any ops listed== [i])&& !(inList (dU l) i)&&nD ops l (listed.setIfInBounds i true)
def SS (g:Gh)(T:VT)(w0:World)(bars:List Nat):HS:=λL w=>(∀b∈bars,L.getD b false=false)→Same g T w0 w
theorem BT {g:Gh}{T:VT}{w0:World}{bars:List Nat}{i:Nat}(hi:i∉bars)(listed:Array Bool)(w:World)(h:SS g T w0 bars (listed.setIfInBounds i true) w):SS g T w0 bars listed w:=
 λhb=>h λb hbm=>by
  have hne:i≠b:=by rintro rfl;exact hi hbm
  rw [getD_set_ne false hne];exact hb b hbm
theorem NV {g:Gh}{T:VT}{w0:World}{bars:List Nat}{i:Nat}(hi:i∉bars)(ha:∀b∈bars,anc ops ops.size b i=true)(listed:Array Bool)(w:World)(hc:Closed ops listed)(hu:listed.getD i false=false)
  (h:SS g T w0 bars (listed.setIfInBounds i true) w):Same g T w0 w:=
 h λb hbm=>by
  have hne:i≠b:=by rintro rfl;exact hi hbm
  rw [getD_set_ne false hne]
  cases hq:listed.getD b false with
  |false=>rfl
  |true=>
   have:=kV hc ops.size b i (ha b hbm) λo ho e he hb=>hc b o ho hq e he hb
   rw [hu] at this;cases this
end
end Go.Proofs.YtaijldpbpimdlaaGreatDoor