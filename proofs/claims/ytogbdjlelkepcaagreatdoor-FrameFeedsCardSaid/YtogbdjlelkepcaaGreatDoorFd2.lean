/-Part 2 of the proof of frameFeedsCard_holds:Vr,Vn,Vo ... No condition. -/
import Derived.Laws.MakeOwn
import Derived.Laws.BytesString
import Derived.Laws.BytesArg
import Derived.Lib.AppendZerosOnto
import Derived.RangeFuncLeaves
import Derived.RangeFuncRecord
import Derived.RangeFuncCalls
import Derived.OrdersIn
import Derived.Test.YtogbdjlelkepcaaGreatDoorFd1
set_option maxRecDepth 100000
namespace Go.Proofs.YtogbdjlelkepcaaGreatDoor
open Go.RowKit
open Go.Act (put_comm)
open _root_.Array (ext' getD_eq_getD_getElem? getElem?_toList getElem_map getElem_of_mem getElem_range mem_toList_iff replicate toArray_toList)
open _root_.Bool (and_eq_true or_eq_true)
open Go.Builtin (append_ cap_ copy_ firstCells len_ zeroCells)
open Go.Calls (mono)
open Go.Extern (allGenericRows allRows allTypedRows find findNext)
open Go.Fence (wide)
open Go.Instr (arrayAt findAsking findKey findNow indexAt sameNow sliceAt storeAt sureAddr yield)
open Go.IntKind (i64)
open _root_.List (all_eq_true any_eq_true append_assoc ext_getElem? getElem?_append getElem?_drop getElem?_set getElem?_take mem_append mem_cons mem_cons_of_mem mem_of_mem_drop mem_of_mem_take range' size_toArray take_left' zipIdx_cons)
open _root_.Nat (add_mul add_zero beq beq_refl ble eq_of_beq_eq_true land le_of_ble_eq_true le_refl lor lt_or_ge min_eq_left mod_lt mul_one ne_of_beq_eq_false sub_self sub_zero zero_add zero_mul)
open Go.Op (equalIn)
open Go.Oper (semAt_eq uponIn wp)
open _root_.Option (getD_some isSome_iff_exists map_eq_some_iff map_none map_some)
open Go.Region (binds free noSelect ready wanted)
open Go.Result (andThen andThen_ok)
open Go.Sem (run_bind run_pure)
open Go.Value (oneCell')
open Go.World (cell?)
section
variable {P:Program}{g:Gh}{T:VT}{w:World}
def cd (T:VT)(size:Nat):TV→Option (List (List TV))
 | .vec sz es _=>bif beq sz size then some es else none
 | .val (.slice none 0 _)=>some []
 | .val (.string s)=>bif beq size 1 then some (s.data.toList.map λb=> [.val (.int .u8 b.toNat)]) else none
 | .row sz id off n=>match T.objs[id]? with
  |some (.row cs)=>bif beq sz size&&ble ((off+n)*size) cs.length then some (dN size n ((cs.drop (off*size)).take (n*size))) else none
  |_=>none
 | .sl id off n _=>match T.objs[id]? with
  |some (.cells cs)=>bif ble (off+n*size) cs.length then some (dN size n ((cs.drop off).take (n*size))) else none
  |some (.row cs)=>bif ble (off+n*size) cs.length then some (dN size n ((cs.drop off).take (n*size))) else none
  |_=>none
 |_=>none
theorem Cm {size:Nat}{tx:TypeId}{b o n c:Nat}{us:List Value}(hk:(∃e',P.underlying tx=some (.slice e'))∨P.underlying tx=some .string)(hl:us.length=n*size)(h1:∀u∈us,u.oneCell'=true)
  (hc:∀(j:Nat) v,us[j]?=some v→w.cell? ⟨b,o+j,none⟩=some v):Src P size tx (.slice (some ⟨b,o,none⟩) n c) n us w:=by
 have hc:∀w':World,(∀a,w'.cell? a=w.cell? a)→(firstCells size n (.slice (some ⟨b,o,none⟩) n c)).run P w'=.ok us.toArray w':=λw' hw=>by
  have:=run_loadCells_list (P:=P) w' ⟨b,o,none⟩ us (λj v hv=>by rw [Addr.add_none,hw];exact hc j v hv)
  rw [hl] at this
  simpa [firstCells] using this
 exact ⟨hk,λ_=>rfl,hc w (λ_=>rfl),hc w.drew (λ_=>rfl),hl,h1⟩
theorem gF {size n:Nat}{cs:List TV}(h:cs.length=n*size):(dN size n cs).length=n∧(∀e∈dN size n cs,e.length=size)∧(dN size n cs).flatten=cs:=
 ⟨nX size n cs,(pI size n cs h).1,(pI size n cs h).2⟩
theorem oJ (r:RW g T w){size:Nat}{tx:TypeId}{x:TV}{u:Value}{es:List (List TV)}(h:cd T size x=some es)(hx:VR g w x u)(hk:(∃e',P.underlying tx=some (.slice e'))∨P.underlying tx=some .string):
  ∃news,Src P size tx u es.length news w∧VRs g w es.flatten news∧∀e∈es,e.length=size:=by
 cases x<;>simp only [cd] at h<;>try (cases h)
 case val v=>
  have e1:cd T size (.val v)=gf size (.val v):=by
   cases v with
   |slice a n c=>cases a<;>cases n<;>rfl
   |string s=>simp only [cd,gf];cases hb:beq size 1 with
    |true=>simp [eq_of_beq_eq_true hb]
    |false=>simp [ne_of_beq_eq_false hb]
   |_=>rfl
  exact v6 (by rw [←e1];exact h) hx hk
 case vec sz es' tok=>
  cases hb:beq sz size with
  |false=>rw [hb] at h;cases h
  |true=>
   rw [hb] at h;injection h with h;subst h
   exact v6 (by simp [gf,eq_of_beq_eq_true hb]) hx hk
 case row sz id off n=>
  split at h
  ·rename_i cs hid
   cases hb:(beq sz size&&ble ((off+n)*size) cs.length) with
   |false=>rw [hb] at h;cases h
   |true=>
    rw [hb] at h;injection h with h;subst h
    simp only [and_eq_true] at hb
    have hsz:=eq_of_beq_eq_true hb.1
    have hle:=le_of_ble_eq_true hb.2
    subst hsz
    obtain ⟨b,c,h1,h2,h3,h4,h5,rfl⟩:=hx.row_inv
    obtain ⟨b',q1,⟨us,t,q2,q3,q4,q5⟩,_⟩:=r.obj id _ hid rfl
    rw [h1] at q1;injection q1 with q1;subst q1
    rw [add_mul] at hle
    have hl:((cs.drop (off*sz)).take (n*sz)).length=n*sz:=by simp;omega
    obtain ⟨k1,k2,k3⟩:=gF hl
    have hv:=(q4.drop (off*sz)).take (n*sz)
    have hl2:(((us.take cs.length).drop (off*sz)).take (n*sz)).length=n*sz:=by simp;omega
    rw [k1,k3]
    refine ⟨_,Cm hk hl2 (λu hu=>q5 u (mem_of_mem_drop (mem_of_mem_take hu))) (λj v hv=> ?_),hv,k2⟩
    rw [cell?,q2]
    simp only [getElem?_take,getElem?_drop] at hv
    split at hv
    ·split at hv
     ·simpa using hv
     ·cases hv
    ·cases hv
  ·cases h
 case sl id off n cap=>
  split at h
  ·rename_i cs hid
   cases hb:ble (off+n*size) cs.length with
   |false=>rw [hb] at h;cases h
   |true=>
    rw [hb] at h;injection h with h;subst h
    have hle:=le_of_ble_eq_true hb
    obtain ⟨b,h1,rfl⟩:=hx.sl_inv
    obtain ⟨b',q1,⟨us,t,q2,q4,q5⟩,_⟩:=r.obj id _ hid rfl
    rw [h1] at q1;injection q1 with q1;subst q1
    have hl:((cs.drop off).take (n*size)).length=n*size:=by simp;omega
    obtain ⟨k1,k2,k3⟩:=gF hl
    have hv:=(q4.drop off).take (n*size)
    have hl2:((us.drop off).take (n*size)).length=n*size:=by rw [hv.1];exact hl
    rw [k1,k3]
    refine ⟨_,Cm hk hl2 (λu hu=>q5 u (mem_of_mem_drop (mem_of_mem_take hu))) (λj v hv=> ?_),hv,k2⟩
    rw [cell?,q2]
    simp only [getElem?_take,getElem?_drop] at hv
    split at hv
    ·simpa using hv
    ·cases hv
  ·rename_i cs hid
   cases hb:ble (off+n*size) cs.length with
   |false=>rw [hb] at h;cases h
   |true=>
    rw [hb] at h;injection h with h;subst h
    have hle:=le_of_ble_eq_true hb
    obtain ⟨b,h1,rfl⟩:=hx.sl_inv
    obtain ⟨b',q1,⟨us,t,q2,q3,q4,q5⟩,_⟩:=r.obj id _ hid rfl
    rw [h1] at q1;injection q1 with q1;subst q1
    have hl:((cs.drop off).take (n*size)).length=n*size:=by simp;omega
    obtain ⟨k1,k2,k3⟩:=gF hl
    have hv:=(q4.drop off).take (n*size)
    have hl2:(((us.take cs.length).drop off).take (n*size)).length=n*size:=by rw [hv.1];exact hl
    rw [k1,k3]
    refine ⟨_,Cm hk hl2 (λu hu=>q5 u (mem_of_mem_drop (mem_of_mem_take hu))) (λj v hv=> ?_),hv,k2⟩
    rw [cell?,q2]
    simp only [getElem?_take,getElem?_drop] at hv
    split at hv
    ·split at hv
     ·simpa using hv
     ·cases hv
    ·cases hv
  ·cases h
def VT.kill (T:VT)(id:Nat):VT:={T with objs:=T.objs.set id .gone}
theorem RW.kill {g:Gh}{T:VT}{w:World}(r:RW g T w){id b:Nat}{o:VO}(hid:T.objs[id]?=some o)(hl:o.live=true)(hb:g.obj id=some b):RW g (T.kill id) w:=
 (r.setObj hid hl hb (o':=.gone) ⟨rfl,rfl,rfl⟩ rfl (λ_ _=>rfl) rfl (λh=>by cases h)).1
theorem rM {g:Gh}{T:VT}{w:World}(r:RW g T w){id b:Nat}{o:VO}(hid:T.objs[id]?=some o)(hl:o.live=true)(hb:g.obj id=some b):wY g (T.kill id) b where
 fr:=by obtain ⟨b',h1,_,h3,_⟩:=r.obj id o hid hl;rw [hb] at h1;injection h1 with h1;subst h1;exact h3
 st:=by obtain ⟨b',h1,_,_,h3⟩:=r.obj id o hid hl;rw [hb] at h1;injection h1 with h1;subst h1;exact h3
 obj:=λi oi h1 h2 h3=>by
  simp only [VT.kill,getElem?_set] at h1
  split at h1
  ·split at h1
   ·injection h1 with h1;subst h1;cases h2
   ·cases h1
  ·rename_i hne
   exact hne (r.inj id i o oi b hid hl h1 h2 hb h3)
 tl:=λk x hx h=>r.tobj id o b k x hid hl hb hx h
theorem v9 (T:VT)(id:Nat):(T.kill id).objs.length=T.objs.length:=by simp [VT.kill]
def VT.newRow (T:VT)(cs:List TV):VT:={T with objs:=T.objs++ [.row cs]}
theorem GO (T:VT)(cs:List TV):(T.newRow cs).objs.length=T.objs.length+1:=by simp [VT.newRow]
theorem mt (r:RW g T w){t tx ty e:TypeId}{i:TypeInfo}{z:Value}(ht:P.underlying t=some (.slice e))(hi:P.info? e=some i)(hz:i.zero=some z)(hzs:z.cells.size=i.size)
  {cs cs2:List TV} {a:Option Addr} {n n2 c:Nat} {us:List Value} {x:Value} {news:List Value} (hn:cs.length=n*i.size) (h5:VRs g w cs us) (h8:∀u∈us,u.oneCell'=true) (hz1:∀u∈z.cells.toList,u.oneCell'=true)
  (hold:(firstCells i.size n (.slice a n c)).run P w.drew=.ok us.toArray w.drew)
  (hs:Src P i.size tx x n2 news w) (k2:VRs g w cs2 news) (hroom:c<n+n2) (hb:(n+n2)*(i.bytes+1)≤140737488355328):
  ∃u g' w',(append_ #[t,tx] ty #[.slice a n c,x]).run P w=.ok u w'∧VR g' w' (.row i.size T.objs.length 0 (n+n2)) u∧Evo g w g' w'∧RW g' (T.newRow (cs++cs2)) w'∧Gr w w':=by
 rw [Nat.mul_add,mul_one] at hb
 have hrun:=run_append_grow_src (P:=P) w t tx ty e i z ht hi hz a n c us hold x n2 news hs hroom (by omega) (growslice_fits (bytes:=i.bytes) hroom (by omega))
 have hge:=grownCap_ge w (n+n2) c e
 have hle:=grownCap_le_maxLen w (n+n2) c e (by unfold maxLen;omega)
 generalize hcap:grownCap w (n+n2) c e=cap at hrun hge hle
 have hnl:=hs.newsLen
 have hul:us.length=n*i.size:=by rw [h5.1,hn]
 have hz0:∀u∈(zeroCells z.cells (cap-(n+n2))).toList,u.oneCell'=true:=by
  intro u hu
  rw [mem_toList_iff] at hu
  obtain ⟨j,hj,rfl⟩:=getElem_of_mem hu
  rw [size_zeroCells] at hj
  have hzp:0<z.cells.size:=by
   rcases Nat.eq_zero_or_pos z.cells.size with h0 | h0
   ·rw [h0,Nat.mul_zero] at hj;omega
   ·exact h0
  have:(zeroCells z.cells (cap-(n+n2)))[j]'(by rw [size_zeroCells];exact hj)=z.cells[j%z.cells.size]'(mod_lt _ hzp):=by
   simp only [zeroCells,getElem_map,getElem_range]
   exact getElem!_pos z.cells (j%z.cells.size) (mod_lt _ hzp)
  rw [this]
  exact hz1 _ (mem_toList_iff.2 (Array.getElem_mem _))
 have hxs:((us++news).toArray++zeroCells z.cells (cap-(n+n2))).size=cap*i.size:=by
  simp only [Array.size_append,size_toArray,List.length_append,size_zeroCells,hul,hnl,hzs,Nat.sub_mul,add_mul]
  have:(n+n2)*i.size≤cap*i.size:=Nat.mul_le_mul_right _ hge
  rw [add_mul] at this
  omega
 have e0:((us++news).toArray++zeroCells z.cells (cap-(n+n2)))=(us++news++(zeroCells z.cells (cap-(n+n2))).toList).toArray:=by
  apply ext'
  simp
 rw [e0] at hrun hxs
 have hgr:Gr w (w.drew.alloc (.cells (us++news++(zeroCells z.cells (cap-(n+n2))).toList).toArray e)):=(Gr.refl w).drew.alloc _
 have hnew:(w.drew.alloc (.cells (us++news++(zeroCells z.cells (cap-(n+n2))).toList).toArray e)).heap[w.heap.size]?=some (.cells (us++news++(zeroCells z.cells (cap-(n+n2))).toList).toArray e):=heap_alloc_new w.drew _
 generalize w.drew.alloc (.cells (us++news++(zeroCells z.cells (cap-(n+n2))).toList).toArray e)=w' at*
 have e1:=Evo.of_gr r hgr
 have hl2:(cs++cs2).length=(us++news).length:=by simp [h5.1,k2.1]
 have ro:OR g w' w.heap.size (.row (cs++cs2)):=by
  refine ⟨_,e,hnew,?_,?_,?_⟩
  ·rw [hl2];simp
  ·rw [hl2,take_left']
   ·exact (h5.app k2).mono e1
   ·rfl
  ·intro u hu
   rw [hl2,take_left' rfl] at hu
   rcases mem_append.1 hu with hu | hu
   ·exact h8 u hu
   ·exact hs.one u hu
 have r1:=(r.gr hgr).addObj (r.fresh (le_refl _)) (o:=.row (cs++cs2)) rfl ro
 have e2:=e1.trans (Evo.addObj (w:=w') (b:=w.heap.size) (r.out T.objs.length (le_refl _)))
 have hlt:w.heap.size<w'.heap.size:=(Array.getElem?_eq_some_iff.1 hnew).1
 have hcz:cf w' w.heap.size=cap*i.size:=by rw [cp hnew];exact hxs
 refine ⟨_,_,_,hrun,?_,e2,r1,hgr⟩
 have:=VR.row (g:=g.addObj T.objs.length w.heap.size) (w:=w') (size:=i.size) (id:=T.objs.length) (off:=0) (n:=n+n2) (b:=w.heap.size) (c:=cap) (by simp [Gh.addObj]) hlt hge hle (by rw [hcz,zero_add])
 rw [zero_mul] at this
 exact this
theorem Ls (r:RW g T w){t tx ty e:TypeId}{i:TypeInfo}(ht:P.underlying t=some (.slice e))(hi:P.info? e=some i){id n n2 b c:Nat}{cs cs2:List TV}{x:Value}{news:List Value}
  (hid:T.objs[id]?=some (.row cs)) (hb:g.obj id=some b) (hm:c≤maxLen) (hc:c*i.size=cf w b) (hn:n*i.size≤cs.length)
  (hs:Src P i.size tx x n2 news w) (k2:VRs g w cs2 news) (hroom:n+n2≤c):
  ∃u g' w',(append_ #[t,tx] ty #[.slice (some ⟨b,0,none⟩) n c,x]).run P w=.ok u w'∧VR g' w' (.row i.size T.objs.length 0 (n+n2)) u∧Evo g w g' w'∧RW g' ((T.kill id).newRow (cs.take (n*i.size)++cs2)) w'∧
   ∀c',c' ≠b→w'.heap[c']?=w.heap[c']?:=by
 obtain ⟨b',q1,⟨us,t0,q2,q3,q4,q5⟩,q6,q7⟩:=r.obj id _ hid rfl
 rw [hb] at q1;injection q1 with q1;subst q1
 have hnl:=hs.newsLen
 have hus:us.length=c*i.size:=by rw [hc,cp q2];simp
 have hmul:(n+n2)*i.size≤c*i.size:=Nat.mul_le_mul_right _ hroom
 rw [add_mul] at hmul
 have hst:=run_storeCells_at (P:=P) b (n*i.size) t0 news 0 us.toArray w q2 (by simp;omega) hs.one
 simp only [add_zero] at hst
 have hrun:(append_ #[t,tx] ty #[.slice (some ⟨b,0,none⟩) n c,x]).run P w=.ok (.slice (some ⟨b,0,none⟩) (n+n2) c) (w.setRow b (us.take (n*i.size)++news++us.drop (n*i.size+news.length)).toArray):=by
  rcases hs.kind with ⟨e',hk⟩ | hk<;>simp [append_,run_underlying ht,run_underlying hk,sizeOf,typeInfo,hi,hs.len,hroom,hs.cells,Addr.add_lit,hst]
 have hsr:=setRow_heap w b _ (us.take (n*i.size)++news++us.drop (n*i.size+news.length)).toArray t0 (0,0) q2
 have hl':(us.take (n*i.size)++news++us.drop (n*i.size+news.length)).length=us.length:=by simp;omega
 have hcs:cf (w.setRow b (us.take (n*i.size)++news++us.drop (n*i.size+news.length)).toArray) b=cf w b:=by
  rw [cp hsr,cp q2,size_toArray,size_toArray,hl']
 have hoth:∀c',c' ≠b→(w.setRow b (us.take (n*i.size)++news++us.drop (n*i.size+news.length)).toArray).heap[c']?=w.heap[c']?:=λc' h=>setRow_other w b c' _ h
 obtain ⟨r1,e1⟩:=r.setObj hid rfl hb (o':=.gone) (w':=w.setRow b (us.take (n*i.size)++news++us.drop (n*i.size+news.length)).toArray) ⟨rfl,rfl,rfl⟩ (by simp) hoth hcs (λh=>by cases h)
 have f:wY g (T.kill id) b:=rM r hid rfl hb
 have ro:OR g (w.setRow b (us.take (n*i.size)++news++us.drop (n*i.size+news.length)).toArray) b (.row (cs.take (n*i.size)++cs2)):=by
  have h1:(cs.take (n*i.size)++cs2).length=n*i.size+news.length:=by simp [k2.1];omega
  have h2:(us.take (n*i.size)++news++us.drop (n*i.size+news.length)).take (n*i.size+news.length)=us.take (n*i.size)++news:=by
   rw [take_left' (by simp;omega)]
  refine ⟨_,t0,hsr,?_,?_,?_⟩
  ·rw [h1,hl'];omega
  ·rw [h1]
   rw [h2]
   have h3:=(q4.take (n*i.size)).app k2
   rw [List.take_take,min_eq_left hn] at h3
   exact h3.mono e1
  ·intro u hu
   rw [h1,h2] at hu
   rcases mem_append.1 hu with hu | hu
   ·rw [←min_eq_left hn,←List.take_take] at hu
    exact q5 u (mem_of_mem_take hu)
   ·exact hs.one u hu
 have r2:=RW.addObj (T:=T.kill id) r1 f (o:=.row (cs.take (n*i.size)++cs2)) rfl ro
 rw [v9] at r2
 have e2:=e1.trans (Evo.addObj (w:=w.setRow b (us.take (n*i.size)++news++us.drop (n*i.size+news.length)).toArray) (b:=b) (r.out T.objs.length (le_refl _)))
 have hlt:b<w.heap.size:=(Array.getElem?_eq_some_iff.1 q2).1
 refine ⟨_,_,_,hrun,?_,e2,r2,hoth⟩
 have:=VR.row (g:=g.addObj T.objs.length b) (w:=w.setRow b (us.take (n*i.size)++news++us.drop (n*i.size+news.length)).toArray) (size:=i.size) (id:=T.objs.length) (off:=0) (n:=n+n2) (b:=b) (c:=c) (by simp [Gh.addObj]) (by simpa using hlt) hroom hm (by rw [hcs,zero_add];exact hc)
 rw [zero_mul] at this
 exact this
def lF (P:Program)(ro:Nat)(T:VT)(t tx:TypeId)(s x:TV):Option (TV × VT):=match P.underlying t with
 |some (.slice e)=>match P.info? e with
  |some i=>match i.zero,cd T i.size x with
   |some z,some es2=>match es2 with
    |[]=>(match s with
     | .val (.slice none 0 0)=>some (s,T)
     | .vec .. =>some (s,T)
     | .row .. =>some (s,T)
     |_=>none)
    |_::_=>bif decide (z.cells.size=i.size)&&z.cells.toList.all oneCell' &&gk (P.underlying tx) then (match s with
     | .val (.slice none 0 0)=>bif ble (es2.length*(i.bytes+1)) 140737488355328 then some (.row i.size T.objs.length 0 es2.length,T.newRow es2.flatten) else none
     | .vec sz es .full=>bif beq sz i.size&&ble ((es.length+es2.length)*(i.bytes+1)) 140737488355328 then some (.row i.size T.objs.length 0 (es.length+es2.length),T.newRow (es.flatten++es2.flatten)) else none
     | .row sz id off n=>(match T.objs[id]? with
      |some (.row cs)=>bif beq sz i.size&&beq off 0&&ble ro id&&ble (n*i.size) cs.length&&ble ((n+es2.length)*(i.bytes+1)) 140737488355328 then some (.row i.size T.objs.length 0 (n+es2.length),(T.kill id).newRow (cs.take (n*i.size)++es2.flatten)) else none
      |_=>none)
     |_=>none) else none
   |_,_=>none
  |none=>none
 |_=>none
theorem gG (T:VT)(cs:List TV):(T.newRow cs).objs.take T.objs.length=T.objs:=by simp [VT.newRow]
theorem Lt (r:RW g T w){ro:Nat}{t tx ty:TypeId}{s x y:TV}{us ux:Value}{T':VT}(h:lF P ro T t tx s x=some (y,T'))(hs:VR g w s us)(hx:VR g w x ux)  (hk0:gk (P.underlying tx)=true):
  ∃u g' w',(append_ #[t,tx] ty #[us,ux]).run P w=.ok u w'∧VR g' w' y u∧Evo g w g' w'∧RW g' T' w'∧Fix ro g T w T' w':=by
 unfold lF at h
 split at h
 ·rename_i e ht
  split at h
  ·rename_i i hi
   split at h
   ·rename_i z es2 hz hr2
    obtain ⟨news,sr,k2,z2⟩:=oJ (P:=P) r hr2 hx (qK hk0)
    have hfl2:=cL z2
    split at h
    ·have sr0:Src P i.size tx ux 0 news w:=sr
     have none_ok:∀{a n c},us=.slice a n c→n≤c→∃u g' w',(append_ #[t,tx] ty #[us,ux]).run P w=.ok u w'∧VR g' w' s u∧Evo g w g' w'∧RW g' T w'∧Fix ro g T w T w':=by
      intro a n c h1 h2
      have:=ke (ty:=ty) ht hi sr0 (a:=a) h2
      rw [←h1] at this
      exact ⟨_,g,w,this,hs,Evo.refl _ _,r,Fix.refl _ _ _ _⟩
     split at h
     ·injection h with h;injection h with h1 h2;subst h1 h2
      exact none_ok hs.val_inv (le_refl _)
     ·injection h with h;injection h with h1 h2;subst h1 h2
      rcases hs.vec_inv with ⟨h1,_⟩ | ⟨b,o,c,us',h1,h2,_⟩ | ⟨a,h1,_⟩
      ·exact none_ok h1 (le_refl _)
      ·exact none_ok h1 h2
      ·exact none_ok h1 (le_refl _)
     ·injection h with h;injection h with h1 h2;subst h1 h2
      obtain ⟨b,c,_,_,h3,_,_,h1⟩:=hs.row_inv
      exact none_ok h1 h3
     ·cases h
    ·rename_i q0 qs
     cases hb:(decide (z.cells.size=i.size)&&z.cells.toList.all oneCell' &&gk (P.underlying tx)) with
     |false=>rw [hb] at h;cases h
     |true=>
      rw [hb] at h
      simp only [and_eq_true,decide_eq_true_eq] at hb
      obtain ⟨⟨hz1,hz2⟩,hk⟩:=hb
      simp only [cond_true] at h
      have hz3:∀u∈z.cells.toList,u.oneCell'=true:=all_eq_true.1 hz2
      split at h
      ·cases hb2:ble ((q0::qs).length*(i.bytes+1)) 140737488355328 with
       |false=>rw [hb2] at h;cases h
       |true=>
        rw [hb2] at h
        injection h with h;injection h with h1 h2;subst h1 h2
        rw [hs.val_inv]
        obtain ⟨u,g',w',e1,e2,e3,e4,e5⟩:=mt (ty:=ty) r ht hi hz hz1 (cs:= []) (a:=none) (n:=0) (c:=0) (us:= []) (by simp) (VRs.nil g w) (by simp) hz3 (run_firstCells_none w.drew i.size 0 0 0) sr k2 (by simp) (by simpa using le_of_ble_eq_true hb2)
        rw [zero_add] at e2
        exact ⟨u,g',w',e1,e2,e3,by simpa using e4,Fix.of_same (Same.of_gr r e5) (gG _ _)⟩
      ·rename_i sz es
       cases hb2:(beq sz i.size&&ble ((es.length+(q0::qs).length)*(i.bytes+1)) 140737488355328) with
       |false=>rw [hb2] at h;cases h
       |true=>
        rw [hb2] at h
        simp only [and_eq_true] at hb2
        have hsz:=eq_of_beq_eq_true hb2.1
        subst hsz
        injection h with h;injection h with h1 h2;subst h1 h2
        rcases hs.vec_inv with ⟨rfl,rfl,_⟩ | ⟨b,o,c,us',rfl,f1,f2,f3,f4,f5,f6,f7,f8⟩ | ⟨a,rfl,rfl,_⟩
        rotate_left 2
        ·obtain ⟨u,g',w',e1,e2,e3,e4,e5⟩:=mt (ty:=ty) r ht hi hz hz1 (cs:= []) (a:=some a) (n:=0) (c:=0) (us:= []) (by simp) (VRs.nil g w) (by simp) hz3 (by simp [firstCells,loadCells,loadCellsFrom]) sr k2 (by simp) (by simpa using le_of_ble_eq_true hb2.2)
         exact ⟨u,g',w',e1,e2,e3,by simpa using e4,Fix.of_same (Same.of_gr r e5) (gG _ _)⟩
        ·obtain ⟨u,g',w',e1,e2,e3,e4,e5⟩:=mt (ty:=ty) r ht hi hz hz1 (cs:= []) (a:=none) (n:=0) (c:=0) (us:= []) (by simp) (VRs.nil g w) (by simp) hz3 (run_firstCells_none w.drew i.size 0 0 0) sr k2 (by simp) (by simpa using le_of_ble_eq_true hb2.2)
         exact ⟨u,g',w',e1,e2,e3,by simpa using e4,Fix.of_same (Same.of_gr r e5) (gG _ _)⟩
        ·have hcf:c=es.length:=f4
         have hul:us'.length=es.length*i.size:=by rw [f5.1,cL f3]
         have hold:(firstCells i.size es.length (.slice (some ⟨b,o,none⟩) es.length c)).run P w.drew=.ok us'.toArray w.drew:=by
          have:=run_loadCells_list (P:=P) w.drew ⟨b,o,none⟩ us' (λj v hv=>by rw [Addr.add_none];exact f7 j v hv)
          rw [hul] at this
          simpa [firstCells] using this
         obtain ⟨u,g',w',e1,e2,e3,e4,e5⟩:=mt (ty:=ty) r ht hi hz hz1 (cs:=es.flatten) (a:=some ⟨b,o,none⟩) (n:=es.length) (c:=c) (us:=us') (cL f3) f5 f8 hz3 hold sr k2 (by simp;omega) (le_of_ble_eq_true hb2.2)
         exact ⟨u,g',w',e1,e2,e3,e4,Fix.of_same (Same.of_gr r e5) (gG _ _)⟩
      ·rename_i sz id off n
       split at h
       ·rename_i cs hid
        cases hb2:(beq sz i.size&&beq off 0&&ble ro id&&ble (n*i.size) cs.length&&ble ((n+(q0::qs).length)*(i.bytes+1)) 140737488355328) with
        |false=>rw [hb2] at h;cases h
        |true=>
         rw [hb2] at h
         simp only [and_eq_true] at hb2
         obtain ⟨⟨⟨⟨hsz,hoff⟩,hro⟩,hn⟩,hbig⟩:=hb2
         have hsz:=eq_of_beq_eq_true hsz
         have hoff:=eq_of_beq_eq_true hoff
         have hro:=le_of_ble_eq_true hro
         have hn:=le_of_ble_eq_true hn
         have hbig:=le_of_ble_eq_true hbig
         subst hsz hoff
         injection h with h;injection h with h1 h2;subst h1 h2
         obtain ⟨b,c,f1,f2,f3,f4,f5,rfl⟩:=hs.row_inv
         obtain ⟨b',q1,⟨us',t0,q2,q3,q4,q5⟩,_⟩:=r.obj id _ hid rfl
         rw [f1] at q1;injection q1 with q1;subst q1
         simp only [zero_add] at f5
         rw [zero_mul]
         have hlt:id<T.objs.length:=(List.getElem?_eq_some_iff.1 hid).1
         have fx:∀(w':World) (cs':List TV),(∀c',c' ≠b→c' <w.heap.size→w'.heap[c']?=w.heap[c']?)→Fix ro g T w ((T.kill id).newRow cs') w':=by
          intro w' cs' ho
          refine ⟨by rw [GO,v9];omega,λj hj hl=> ?_,λj oj bj hj h1 h2 h3=> ?_⟩
          ·simp only [VT.newRow,VT.kill]
           rw [List.getElem?_append_left (by simpa using hl),getElem?_set,if_neg (by omega)]
          ·obtain ⟨b2,p1,p2,_⟩:=r.obj j oj h1 h2
           rw [h3] at p1;injection p1 with p1;subst p1
           refine ho bj (λhbb=> ?_) (p2.lt h2)
           have:=r.inj j id oj _ bj h1 h2 hid rfl h3 (hbb▸f1)
           omega
         rcases lt_or_ge c (n+(q0::qs).length) with hgr | hrm
         ·have hul:((us'.take cs.length).take (n*i.size)).length=n*i.size:=by simp;omega
          have hold:(firstCells i.size n (.slice (some ⟨b,0,none⟩) n c)).run P w.drew=.ok ((us'.take cs.length).take (n*i.size)).toArray w.drew:=by
           have:=run_loadCells_list (P:=P) w.drew ⟨b,0,none⟩ ((us'.take cs.length).take (n*i.size)) (λj v hv=>by
            rw [Addr.add_none]
            simp only [zero_add]
            show w.cell? _=_
            rw [cell?,q2]
            simp only [getElem?_take] at hv
            split at hv
            ·split at hv
             ·simpa using hv
             ·cases hv
            ·cases hv)
           rw [hul] at this
           simpa [firstCells] using this
          have rk:=r.kill hid rfl f1
          obtain ⟨u,g',w',e1,e2,e3,e4,e5⟩:=mt (ty:=ty) rk ht hi hz hz1 (cs:=cs.take (n*i.size)) (a:=some ⟨b,0,none⟩) (n:=n) (c:=c) (us:=(us'.take cs.length).take (n*i.size)) (by simp;omega) (q4.take _) (λu hu=>q5 u (mem_of_mem_take hu)) hz3 hold sr k2 hgr hbig
          rw [v9] at e2
          refine ⟨u,g',w',e1,e2,e3,e4,fx w' _ λc' _ hl=>e5.heap hl⟩
         ·obtain ⟨u,g',w',e1,e2,e3,e4,e5⟩:=Ls (ty:=ty) r ht hi hid f1 f4 f5 hn sr k2 hrm
          exact ⟨u,g',w',e1,e2,e3,e4,fx w' _ λc' hc' _=>e5 c' hc'⟩
       ·cases h
      ·cases h
   ·cases h
  ·cases h
 ·cases h
end
section
variable {P:Program}{g:Gh}{T:VT}{w:World}
def Cn (P:Program)(t:TypeId)(x:TV):Option TV:=match P.underlying t,x with
 |some (.array n _),.vec _ (e::es) _=>bif ble n (es.length+1) then some (.elt (e::es).flatten) else none
 |some (.array n _),.row size id off m=>bif ble n m then some (.ptr id (off*size)) else none
 |_,_=>none
theorem IR {g:Gh}{w:World}{t:TypeId}{x y:TV}{u:Value}(h:Cn P t x=some y)(hx:VR g w x u):Looks0 P g w (arrayAt t u) y:=by
 unfold Cn at h
 split at h
 ·rename_i n k sz e es tok hu
  cases hb:ble n (es.length+1) with
  |false=>rw [hb] at h;cases h
  |true=>
   rw [hb] at h
   have hb:=le_of_ble_eq_true hb
   injection h with h;subst h
   rcases hx.vec_inv with ⟨_,h2,_⟩ | ⟨b,o,c,us,rfl,f1,f2,f3,f4,f5,f6,f7,f8⟩ | ⟨_,_,h2,_⟩
   rotate_left 2
   ·cases h2
   ·cases h2
   ·refine .of_ok (.mk_elt f5 f6 f7 f8) λw'=> ?_
    have:¬(es.length+1<n):=by omega
    simp [arrayAt,run_underlying hu,this]
 ·rename_i n k sz id off m hu
  cases hb:ble n m with
  |false=>rw [hb] at h;cases h
  |true=>
   rw [hb] at h
   have hb:=le_of_ble_eq_true hb
   injection h with h;subst h
   obtain ⟨b,c,k1,k2,k3,k4,k5,rfl⟩:=hx.row_inv
   refine .of_ok (.ptr k1) λw'=> ?_
   have:¬(m<n):=by omega
   simp [arrayAt,run_underlying hu,this]
 ·cases h
def y8 (P:Program)(t:TypeId)(x i:TV):Option TV:=match P.underlying t,i,x with
 |some (.array n e),.val (.int _ z),.agg cs=>match P.info? e with
  |some inf=>bif decide (0≤z)&&decide (z<n) then Bt P e cs (z.toNat*inf.size) else none
  |none=>none
 |_,_,_=>none
theorem GP {g:Gh}{w:World}{t:TypeId}{x i y:TV}{u v:Value}(h:y8 P t x i=some y)(hx:VR g w x u)(hi:VR g w i v):Looks0 P g w (Instr.index t u v) y:=by
 unfold y8 at h
 split at h
 ·rename_i n e k z cs hu
  split at h
  ·rename_i inf hinf
   cases hb:(decide (0≤z)&&decide (z<n)) with
   |false=>rw [hb] at h;cases h
   |true=>
    rw [hb] at h
    simp only [and_eq_true,decide_eq_true_eq] at hb
    rw [hi.val_inv]
    obtain ⟨us,rfl,h1⟩:=hx.agg_inv
    obtain ⟨v',h2,h3⟩:=Ce (P:=P) h h1
    exact ⟨v',h2,λw'=>by simp [Instr.index,asIntOf,run_underlying hu,hb.1,hb.2,bO hinf,h3 w']⟩
  ·cases h
 ·cases h
def oq (P:Program)(t:TypeId)(x i:TV):Option TV:=match i,x with
 | .val (.int _ z),.row size id off n=>match P.underlying t with
  |some (.slice e)=>match P.info? e with
   |some inf=>bif beq inf.size size&&decide (0≤z)&&decide (z<n) then some (.ptr id (off*size+z.toNat*size)) else none
   |none=>none
  |_=>none
 |_,_=>none
theorem GQ {t:TypeId}{x i y:TV}{u v:Value}(h:oq P t x i=some y)(hx:VR g w x u)(hi:VR g w i v):Looks0 P g w (indexAt t u v) y:=by
 unfold oq at h
 split at h
 ·rename_i k z size id off n
  rw [hi.val_inv]
  split at h
  ·rename_i e hu
   split at h
   ·rename_i inf hinf
    cases hb:(beq inf.size size&&decide (0≤z)&&decide (z<n)) with
    |false=>rw [hb] at h;cases h
    |true=>
     rw [hb] at h
     simp only [and_eq_true,decide_eq_true_eq] at hb
     obtain ⟨⟨hs,h0⟩,h1⟩:=hb
     have hs:=eq_of_beq_eq_true hs
     injection h with h;subst h
     obtain ⟨b,c,h2,h3,h4,h5,h6,rfl⟩:=hx.row_inv
     exact .of_ok (.ptr h2) λw'=>by simp [indexAt,asIntOf,run_underlying hu,h0,h1,bO hinf,Addr.add_none,hs]
   ·cases h
  ·cases h
 ·cases h
def aq (op:BinOp)(b:Bool):Bool:=match op with
 | .eql=>b
 |_=> !b
def Lu:BinOp→Bool
 | .eql | .neq=>true
 |_=>false
def Sa (P:Program)(op:BinOp)(t:TypeId)(x y:TV):Option TV:=bif Lu op then (match ea x with
 |some a=>match ea y with
  |some b=>match gn P t with
   |some s=>bif s.fits a&&s.fits b then some (.val (.bool (aq op (aT a b)))) else none
   |none=>none
  |none=>none
 |none=>none) else none
theorem Bn {t:TypeId}{s:KS}(h:gn P t=some s){op:BinOp}{xo yo:Operand}{a b:Value}(ha:s.fits a=true)(hb:s.fits b=true)(w:World):(eqGuard op t xo yo a b).run P w=.ok () w:=by
 obtain ⟨xs,cx,fx⟩:=eW ha
 obtain ⟨ys,cy,fy⟩:=eW hb
 have ok:=jM (P:=P) 6 t s h
 cases hs:s.agg with
 |true=>
  rw [dO hs cx,dO hs cy]
  have hg:=ok.guard hs
  cases op<;>simp [eqGuard,hg]
 |false=>
  have ha':∀cs,a≠ .agg cs:=λcs h=>by subst h;simp [KS.cells,hs] at cx
  have hn:a≠ .nilIface:=λh=>by
   subst h
   obtain ⟨c,hc⟩:=ok.one hs
   simp [KS.cells,hs] at cx;subst cx
   rw [hc] at fx;cases c<;>simp [bQ,CK.fit] at fx
  unfold eqGuard
  cases op<;>cases a<;>simp_all []
theorem Sb {op:BinOp}{t:TypeId}{xo yo:Operand}{x y r:TV}{u v:Value}(h:Sa P op t x y=some r)(hx:VR g w x u)(hy:VR g w y v):
  Looks0 P g w (do eqGuard op t xo yo u v;binOp op t u v) r:=by
 have key:∀s,gn P t=some s→s.fits u=true→s.fits v=true→(op=.eql∨op=.neq)→
   Looks0 P g w (do eqGuard op t xo yo u v;binOp op t u v) (.val (.bool (aq op (aT u v)))):=by
  clear h hx hy
  intro s h3 h4 h5 h6
  refine .of_ok (.val _) λw'=> ?_
  have hg:=Bn h3 (op:=op) (xo:=xo) (yo:=yo) h4 h5 w'
  have he:=vE h3 h4 h5 w'
  have hb:(binOp op t u v).run P w'=.ok (.bool (aq op (aT u v))) w':=by
   obtain ⟨xs,cx,fx⟩:=eW h4
   obtain ⟨ys,cy,fy⟩:=eW h5
   have ok:=jM (P:=P) 6 t s h3
   cases hs:s.agg with
   |true=>
    rw [dO hs cx,dO hs cy] at he ⊢
    rcases h6 with rfl | rfl<;>simp [binOp,he,aq]
   |false=>
    obtain ⟨c,hc⟩:=ok.one hs
    have fx1:∃x1,xs= [x1]∧c.fit x1=true:=by
     rw [hc] at fx
     match xs,fx with
     |[x1],fx=>simp [bQ] at fx;exact ⟨x1,rfl,fx⟩
     |[],fx=>simp [bQ] at fx
     |_::_::_,fx=>simp [bQ] at fx
    have fy1:∃y1,ys= [y1]∧c.fit y1=true:=by
     rw [hc] at fy
     match ys,fy with
     |[y1],fy=>simp [bQ] at fy;exact ⟨y1,rfl,fy⟩
     |[],fy=>simp [bQ] at fy
     |_::_::_,fy=>simp [bQ] at fy
    obtain ⟨x1,rfl,gx⟩:=fx1
    obtain ⟨y1,rfl,gy⟩:=fy1
    have eu:u=x1:=by cases u<;>simp [KS.cells,hs] at cx<;>exact cx
    have ev:v=y1:=by cases v<;>simp [KS.cells,hs] at cy<;>exact cy
    subst eu ev
    cases c with
    |int k=>
     cases u<;>simp [CK.fit] at gx
     cases v<;>simp [CK.fit] at gy
     subst gx gy
     rcases h6 with rfl | rfl<;>simp [binOp,Op.intCmp,aT,dh,bne,aq]
    |bool=>
     cases u<;>simp [CK.fit] at gx
     cases v<;>simp [CK.fit] at gy
     rcases h6 with rfl | rfl<;>simp [binOp,he,aq]
    |str=>
     cases u<;>simp [CK.fit] at gx
     cases v<;>simp [CK.fit] at gy
     rcases h6 with rfl | rfl<;>simp [binOp,Op.stringOp,aT,dh,aq,beq_toListBytes]
  simp only [run_bind,hg,andThen_ok,hb]
 unfold Sa at h
 cases ho:Lu op with
 |false=>rw [ho] at h;cases h
 |true=>
  rw [ho] at h
  simp only [cond_true] at h
  have h6:op=.eql∨op=.neq:=by cases op<;>simp [Lu] at ho<;>simp
  cases h1:ea x with
  |none=>rw [h1] at h;cases h
  |some a=>
   cases h2:ea y with
   |none=>rw [h1,h2] at h;cases h
   |some b=>
    cases h3:gn P t with
    |none=>rw [h1,h2,h3] at h;cases h
    |some s=>
     rw [h1,h2,h3] at h
     simp only at h
     have e1:=ef h1 hx
     have e2:=ef h2 hy
     subst e1 e2
     cases hb:(s.fits u&&s.fits v) with
     |false=>rw [hb] at h;cases h
     |true=>
      rw [hb] at h
      simp only [and_eq_true] at hb
      injection h with h;subst h
      exact key s h3 hb.1 hb.2 h6
end
section
variable {P:Program}{g:Gh}{T:VT}{w:World}
def td (n:Nat):Option TV→Option Nat
 |none=>some n
 |some y=>fp y
def gp (P:Program)(t:TypeId)(x:TV)(lo hi mx:Option TV):Option TV:=match x,mx with
 | .row size id off n,none=>match P.underlying t with
  |some (.slice e)=>match P.info? e with
   |some inf=>match fq lo,td n hi with
    |some l,some h=>bif beq inf.size size&&ble l h&&ble h n then (match l with
     | 0=>some (.row size id off h)
     |_+1=>bif beq l h then some (.vec size [] (.past id (off+l))) else some (.row size id (off+l) (h-l))) else none
    |_,_=>none
   |none=>none
  |_=>none
 |_,_=>none
theorem GR {t:TypeId}{x y:TV}{lo hi mx:Option TV}{u:Value}{ul uh um:Option Value}(h:gp P t x lo hi mx=some y)(hx:VR g w x u)(hl:BR g w lo ul)(hh:BR g w hi uh)(hm:BR g w mx um):
  Looks0 P g w (sliceAt t u ul uh um) y:=by
 unfold gp at h
 split at h
 ·rename_i size id off n
  split at h
  ·rename_i e hu
   split at h
   ·rename_i inf hinf
    split at h
    ·rename_i l hv h1 h2
     cases hb:(beq inf.size size&&ble l hv&&ble hv n) with
     |false=>rw [hb] at h;cases h
     |true=>
      rw [hb] at h
      simp only [and_eq_true] at hb
      obtain ⟨⟨b1,b2⟩,b3⟩:=hb
      have b1:=eq_of_beq_eq_true b1
      have b2:=le_of_ble_eq_true b2
      have b3:=le_of_ble_eq_true b3
      subst b1
      obtain ⟨b,c,k1,k2,k3,k4,k5,rfl⟩:=hx.row_inv
      have hum:um=none:=by cases um<;>simp [BR] at hm;rfl
      subst hum
      have hrun:∀w':World,(sliceAt t (.slice (some ⟨b,off*inf.size,none⟩) n c) ul uh none).run P w'=.ok (.slice (if c=l then some ⟨b,off*inf.size,none⟩ else some ⟨b,off*inf.size+l*inf.size,none⟩) (hv-l) (c-l)) w':=by
       intro w'
       have:=iw (P:=P) (isS:=true) (len:=n) (cap:=c) h1 (by cases hi<;>first | exact h2 | simp [td]) hl hh b2 (by omega) w'
       simp only [sliceAt,Instr.slice,run_bind,run_underlying hu,andThen_ok,this,bO hinf,run_pure,map_some,Addr.add_none]
      cases l with
      |zero=>
       simp only [cond_true] at h
       injection h with h;subst h
       refine .of_ok ?_ hrun
       have e1:(if c=0 then some (⟨b,off*inf.size,none⟩:Addr) else some ⟨b,off*inf.size+0*inf.size,none⟩)=some ⟨b,off*inf.size,none⟩:=by simp
       rw [e1,sub_zero,sub_zero]
       exact .row k1 k2 (by omega) k4 k5
      |succ l'=>
       simp only [cond_true] at h
       cases hq:beq (l' +1) hv with
       |true=>
        rw [hq] at h
        have hq:=eq_of_beq_eq_true hq
        injection h with h;subst h
        refine .of_ok ?_ hrun
        rw [←hq,sub_self]
        split
        ·exact .mk_vec (us:= []) (by simp) (by omega) (by omega) (by simp) (λhlt=>absurd hlt (by omega)) (by simpa using VRs.nil g w) (by simp) (by simp) (by simp)
        ·refine .mk_vec (us:= []) (by simp) (by omega) (by omega) (by simp) (λhlt=>⟨k1,k2,?_,?_⟩) (by simpa using VRs.nil g w) (by simp) (by simp) (by simp)
         ·rw [zero_mul,add_zero,←add_mul]
         ·rw [←add_mul,←add_mul,←k5];congr 1;omega
       |false=>
        rw [hq] at h
        have hq:=ne_of_beq_eq_false hq
        injection h with h;subst h
        refine .of_ok ?_ hrun
        rw [if_neg (by omega),←add_mul]
        exact .row k1 k2 (by omega) (by omega) (by rw [←k5];congr 1;omega)
    ·cases h
   ·cases h
  ·cases h
 ·cases h
def ot (P:Program)(t:TypeId)(x:TV)(lo hi mx:Option TV):Option TV:=match x,mx with
 | .val (.slice none 0 0),none=>match P.underlying t with
  |some (.slice e)=>match P.info? e,fq lo,td 0 hi with
   |some _,some 0,some 0=>some (.val (.slice none 0 0))
   |_,_,_=>none
  |_=>none
 |_,_=>none
theorem GS {t:TypeId}{x y:TV}{lo hi mx:Option TV}{u:Value}{ul uh um:Option Value}(h:ot P t x lo hi mx=some y)(hx:VR g w x u)(hl:BR g w lo ul)(hh:BR g w hi uh)(hm:BR g w mx um):
  Looks0 P g w (sliceAt t u ul uh um) y:=by
 unfold ot at h
 split at h
 ·split at h
  ·rename_i e hu
   split at h
   ·rename_i inf hinf h1 h2
    injection h with h;subst h
    rw [hx.val_inv]
    have hum:um=none:=by cases um<;>simp [BR] at hm;rfl
    subst hum
    refine .of_ok (.val _) λw'=> ?_
    have:=iw (P:=P) (isS:=true) (len:=0) (cap:=0) h1 (by cases hi<;>first | exact h2 | simp [td]) hl hh (le_refl _) (by omega) w'
    simp only [sliceAt,Instr.slice,run_bind,run_underlying hu,andThen_ok,this,bO hinf,run_pure,map_none,if_true,sub_zero]
   ·cases h
  ·cases h
 ·cases h
def GT (P:Program)(t:TypeId)(x:TV):Option TV:=match x,P.underlying t with
 | .row _ _ _ n,some (.slice _)=>some (.val (.int .i64 n))
 |_,_=>none
theorem Lv {t ty:TypeId}{x y:TV}{u:Value}(h:GT P t x=some y)(hx:VR g w x u):Looks0 P g w (len_ #[t] ty #[u]) y:=by
 unfold GT at h
 split at h
 ·rename_i hu
  injection h with h;subst h
  obtain ⟨b,c,_,_,_,_,_,rfl⟩:=hx.row_inv
  exact .of_ok (.val _) λw'=>by simp [len_,run_underlying hu,goInt]
 ·cases h
def GU (P:Program)(t:TypeId)(x:TV):Option TV:=match x,P.underlying t with
 | .val (.slice _ _ c),some (.slice _)=>some (.val (.int .i64 c))
 |_,_=>none
theorem Lw {t ty:TypeId}{x y:TV}{u:Value}(h:GU P t x=some y)(hx:VR g w x u):Looks0 P g w (cap_ #[t] ty #[u]) y:=by
 unfold GU at h
 split at h
 ·rename_i hu
  injection h with h;subst h
  rw [hx.val_inv]
  exact .of_ok (.val _) λw'=>by simp [cap_,run_underlying hu,goInt]
 ·cases h
theorem pK {z:Array Value}{n m:Nat}(h:n≤m):(madeCells z m).toList.take n=ix z n:=by
 unfold madeCells ix
 apply ext_getElem?
 intro j
 simp only [getElem?_take,Array.toList_map,List.getElem?_map,getElem?_toList]
 by_cases hj:j<n
 ·rw [if_pos hj]
  simp [hj,Nat.lt_of_lt_of_le hj h]
 ·rw [if_neg hj]
  simp [hj]
def oK (P:Program)(T:VT)(t:TypeId)(x y:TV):Option (TV × VT):=match x,y,P.underlying t with
 | .val (.int _ l),.val (.int _ c),some (.slice e)=>match P.info? e with
  |some i=>match i.zero with
   |some z=>bif decide (0≤l)&&decide (l≤c)&&decide ((i.bytes:Int)*c≤281474976710656)&&decide (c≤140737488355328)&&z.cells.toList.all oneCell' &&decide (0<z.cells.size) then
     some (.row i.size T.objs.length 0 l.toNat,T.newRow ((ix z.cells (l.toNat*i.size)).map .val)) else none
   |none=>none
  |none=>none
 |_,_,_=>none
theorem IS (r:RW g T w){t:TypeId}{x y res:TV}{u v:Value}{T':VT}(h:oK P T t x y=some (res,T'))(hx:VR g w x u)(hy:VR g w y v):Does P g T w (Instr.makeSlice t u v) res T'∧T'.objs.take T.objs.length=T.objs:=by
 unfold oK at h
 split at h
 ·rename_i kl l kc c e hu
  split at h
  ·rename_i i hi
   split at h
   ·rename_i z hz
    cases hb:(decide (0≤l)&&decide (l≤c)&&decide ((i.bytes:Int)*c≤281474976710656)&&decide (c≤140737488355328)&&z.cells.toList.all oneCell' &&decide (0<z.cells.size)) with
    |false=>rw [hb] at h;cases h
    |true=>
     rw [hb] at h
     simp only [and_eq_true,decide_eq_true_eq] at hb
     obtain ⟨⟨⟨⟨⟨h0,h1⟩,h2⟩,h3⟩,h4⟩,h5⟩:=hb
     injection h with h;injection h with e1 e2;subst e1 e2
     rw [hx.val_inv,hy.val_inv]
     refine ⟨?_,gG _ _⟩
     have hrun:=run_make (P:=P) w t e i z hu hi hz kl kc l c h0 h1 h2 (by omega)
     have hgr:Gr w (w.alloc (.cells (madeCells z.cells (c.toNat*i.size)) e)):=(Gr.refl w).alloc _
     have hnew:=heap_alloc_new w (.cells (madeCells z.cells (c.toNat*i.size)) e)
     have hlc:l.toNat*i.size≤c.toNat*i.size:=Nat.mul_le_mul_right _ (by omega)
     have hlen:((ix z.cells (l.toNat*i.size)).map TV.val).length=l.toNat*i.size:=by simp [ix]
     have ro:OR g (w.alloc (.cells (madeCells z.cells (c.toNat*i.size)) e)) w.heap.size (.row ((ix z.cells (l.toNat*i.size)).map .val)):=by
      refine ⟨(madeCells z.cells (c.toNat*i.size)).toList,e,by simpa using hnew,?_,?_,?_⟩
      ·rw [hlen];simp [size_madeCells];exact hlc
      ·rw [hlen,pK hlc];exact VRs.vals g _ _
      ·intro u hu
       have hu:=mem_of_mem_take hu
       rw [mem_toList_iff] at hu
       obtain ⟨j,hj,rfl⟩:=getElem_of_mem hu
       have:(madeCells z.cells (c.toNat*i.size))[j]=z.cells[j%z.cells.size]'(mod_lt _ h5):=by
        simp only [madeCells,getElem_map,getElem_range]
        exact getElem!_pos z.cells (j%z.cells.size) (mod_lt _ h5)
       rw [this]
       exact all_eq_true.1 h4 _ (mem_toList_iff.2 (Array.getElem_mem _))
     generalize w.alloc (.cells (madeCells z.cells (c.toNat*i.size)) e)=w' at*
     have r1:=(r.gr hgr).addObj (r.fresh (le_refl _)) (o:=.row ((ix z.cells (l.toNat*i.size)).map .val)) rfl ro
     have e2:=(Evo.of_gr r hgr).trans (Evo.addObj (w:=w') (b:=w.heap.size) (r.out T.objs.length (le_refl _)))
     have hlt:w.heap.size<w'.heap.size:=(Array.getElem?_eq_some_iff.1 hnew).1
     have hcz:cf w' w.heap.size=c.toNat*i.size:=by rw [cp hnew,size_madeCells]
     refine ⟨_,_,_,hrun,?_,e2,r1,Same.of_gr r hgr⟩
     have:=VR.row (g:=g.addObj T.objs.length w.heap.size) (w:=w') (size:=i.size) (id:=T.objs.length) (off:=0) (n:=l.toNat) (b:=w.heap.size) (c:=c.toNat) (by simp [Gh.addObj]) hlt (by omega) (by unfold maxLen;omega) (by rw [hcz,zero_add])
     rw [zero_mul] at this
     exact this
   ·cases h
  ·cases h
 ·cases h
def qM (P:Program)(ro:Nat)(T:VT)(t:TypeId)(a x:TV):Option (TV × VT):=match a with
 | .ptr id off=>match T.objs[id]?,b6 x,P.info? t with
  |some (.row cs),some new,some i=>bif beq i.size new.length&&ble (off+new.length) cs.length&&new.all g7&&ble ro id then some (.val undef,{T with objs:=T.objs.set id (.row (ci cs off new))}) else none
  |_,_,_=>none
 |_=>none
theorem w8 (r:RW g T w){ro:Nat}{t:TypeId}{a x y:TV}{ua u:Value}{T':VT}(h:qM P ro T t a x=some (y,T'))(ha:VR g w a ua)(hx:VR g w x u):
  ∃g' w',(storeAt t ua u).run P w=.ok () w'∧VR g' w' y undef∧Evo g w g' w'∧RW g' T' w'∧Fix ro g T w T' w':=by
 unfold qM at h
 split at h
 ·rename_i id off
  split at h
  ·rename_i cs new i hid hc hi
   cases hb:(beq i.size new.length&&ble (off+new.length) cs.length&&new.all g7&&ble ro id) with
   |false=>rw [hb] at h;cases h
   |true=>
    rw [hb] at h
    simp only [and_eq_true] at hb
    obtain ⟨⟨⟨b1,b2⟩,h3⟩,b4⟩:=hb
    have h1:=eq_of_beq_eq_true b1
    have h2:=le_of_ble_eq_true b2
    have hr:=le_of_ble_eq_true b4
    injection h with h;injection h with e1 e2;subst e1 e2
    obtain ⟨b,hb,rfl⟩:=ha.ptr_inv
    obtain ⟨b',h4,⟨us,ty,h5,h6,h7,h8⟩,_⟩:=r.obj id _ hid rfl
    rw [hb] at h4;injection h4 with h4;subst h4
    have k:=lD hc hx
    have ho:=lb h3 k
    have hl:u.cells.toList.length=new.length:=k.1
    have hrun:=run_storeCells_at (P:=P) b off ty u.cells.toList 0 us.toArray w h5 (by simp at hl ⊢;omega) ho
    simp only [add_zero,hl] at hrun
    have hsr:=setRow_heap w b _ (us.take off++u.cells.toList++us.drop (off+new.length)).toArray ty (0,0) h5
    have hll:(us.take off++u.cells.toList++us.drop (off+new.length)).length=us.length:=by simp at hl ⊢;omega
    have hcs:cf (w.setRow b (us.take off++u.cells.toList++us.drop (off+new.length)).toArray) b=cf w b:=by
     rw [cp hsr,cp h5,size_toArray,size_toArray,hll]
    have hoth:∀c,c≠b→(w.setRow b (us.take off++u.cells.toList++us.drop (off+new.length)).toArray).heap[c]?=w.heap[c]?:=λc hc=>setRow_other w b c _ hc
    obtain ⟨_,e0⟩:=r.setObj hid rfl hb (o':=.gone) (w':=w.setRow b (us.take off++u.cells.toList++us.drop (off+new.length)).toArray) ⟨rfl,rfl,rfl⟩ (by simp) hoth hcs (λh=>by cases h)
    have k2:=((((h7.take off).app k).app (h7.drop (off+new.length)))).mono e0
    have ht:(us.take off++u.cells.toList++us.drop (off+new.length)).take (ci cs off new).length=(us.take cs.length).take off++u.cells.toList++(us.take cs.length).drop (off+new.length):=by
     have hsl:(ci cs off new).length=cs.length:=by simp [ci];omega
     rw [hsl]
     apply ext_getElem?
     intro j
     rw [getElem?_take]
     have hA:(us.take off).length=off:=by simp;omega
     have hA2:((us.take cs.length).take off).length=off:=by simp;omega
     rcases lt_or_ge j cs.length with hj | hj
     ·rw [if_pos hj,append_assoc,append_assoc,getElem?_append (l₁:=us.take off),getElem?_append (l₁:=(us.take cs.length).take off),hA,hA2]
      split
      ·rename_i hjo
       simp [hjo,hj]
      ·rw [getElem?_append,getElem?_append]
       split
       ·rfl
       ·simp only [getElem?_drop,getElem?_take]
        rw [if_pos (by omega)]
     ·rw [if_neg (by omega)]
      symm
      apply List.getElem?_eq_none
      simp at hl ⊢;omega
    have o2:∀v∈(us.take off++u.cells.toList++us.drop (off+new.length)).take (ci cs off new).length,v.oneCell'=true:=by
     rw [ht]
     intro v hv
     simp only [mem_append] at hv
     rcases hv with (hv | hv) | hv
     ·exact h8 v (mem_of_mem_take hv)
     ·exact ho v hv
     ·exact h8 v (mem_of_mem_drop hv)
    obtain ⟨r',e'⟩:=r.setObj hid rfl hb (o':=.row (ci cs off new)) (w':=w.setRow b (us.take off++u.cells.toList++us.drop (off+new.length)).toArray) ⟨rfl,rfl,rfl⟩ (by simp) hoth hcs
     (λ_=>⟨_,ty,hsr,by rw [hll];simp [ci];omega,by rw [ht];exact k2,o2⟩)
    refine ⟨g,_,?_,.val _,e',r',jL r hid rfl hb hr hoth⟩
    have hs:u.cells.size=i.size:=by rw [h1,←hl];simp
    simp only [storeAt,sureAddr,storeVar,run_bind,run_pure,andThen_ok,bO hi,hs]
    simpa using hrun
  ·cases h
 ·cases h
def lf:List (List TV)→Option (List Int)
 |[]=>some []
 |[.val (.int .u8 z)]::r=>(lf r).map (z:: ·)
 |_::_=>none
def Bw (l:List Int):ByteArray:=⟨(l.map λn=>UInt8.ofNat n.toNat).toArray⟩
theorem w9:∀{es:List (List TV)} {l:List Int} {us:List Value},lf es=some l→VRs g w es.flatten us→us=l.map (Value.int .u8)
 |[],l,us,h,k=>by
  injection h with h;subst h
  exact List.eq_nil_of_length_eq_zero (by simpa using k.1)
 |e::es,l,us,h,k=>by
  unfold lf at h
  split at h
  ·rename_i heq;cases heq
  ·rename_i z r heq
   injection heq with h1 h2
   subst h1 h2
   simp only [map_eq_some_iff] at h
   obtain ⟨l',h,rfl⟩:=h
   simp only [List.flatten_cons,List.cons_append,List.nil_append] at k
   match us,k with
   |[],k=>have:=k.1;simp at this
   |u::us,k=>
    have h3:=(k.2 0 _ _ rfl rfl).val_inv
    subst h3
    have k':VRs g w _ us:=⟨by simpa using k.1,λj x u hx hu=>k.2 (j+1) x u hx hu⟩
    rw [w9 h k'];rfl
  ·cases h
theorem GV (l:List Int):l.foldl (λr n=>r.push (UInt8.ofNat n.toNat)) ByteArray.empty=Bw l:=by
 have key:∀(l:List Int) (s:ByteArray),l.foldl (λr n=>r.push (UInt8.ofNat n.toNat)) s=⟨s.data++(l.map λn=>UInt8.ofNat n.toNat).toArray⟩:=by
  intro l
  induction l with
  |nil=>intro s;simp
  |cons n l ih=>
   intro s
   rw [List.foldl_cons,ih]
   congr 1
   simp [ByteArray.push]
 rw [key]
 simp [Bw,ByteArray.empty,ByteArray.emptyWithCapacity]
 rfl
def g9 (P:Program)(T:VT)(s d:TypeId)(x:TV):Option TV:=match P.underlying s,P.underlying d with
 |some (.slice e),some .string=>match P.underlying e with
  |some (.int .u8)=>match x with
   | .val _=>none
   |x=>match cd T 1 x with
    |some es=>(lf es).map λl=>.val (.string (Bw l))
    |none=>none
  |_=>none
 |_,_=>none
end
section
variable {P:Program}{g:Gh}{T:VT}{w:World}
theorem E4 (r:RW g T w){size:Nat}{x:TV}{u:Value}{es:List (List TV)}(hnv:∀v,x≠ .val v)(h:cd T size x=some es)(hx:VR g w x u):
  (u=.slice none 0 0∧es= [])∨(∃b o c us,u=.slice (some ⟨b,o,none⟩) es.length c∧VRs g w es.flatten us∧us.length=es.length*size∧∀w',Same g T w w'→∀(j:Nat) v,us[j]?=some v→w'.cell? ⟨b,o+j,none⟩=some v)∨∃a,u=.slice (some a) 0 0∧es= []:=by
 cases x<;>simp only [cd] at h<;>try (cases h)
 case val v=>exact absurd rfl (hnv v)
 case vec sz es' tok=>
  cases hb:beq sz size with
  |false=>rw [hb] at h;cases h
  |true=>
   rw [hb] at h;injection h with h;subst h
   have hsz:=eq_of_beq_eq_true hb
   subst hsz
   rcases hx.vec_inv with ⟨h1,h2,_⟩ | ⟨b,o,c,us,h1,h2,h3,h4,h5,h6,h7,h8,h9⟩ | ⟨a,h1,h2,_⟩
   rotate_left 2
   ·exact .inr (.inr ⟨a,h1,h2⟩)
   ·exact .inl ⟨h1,h2⟩
   ·refine .inr (.inl ⟨b,o,c,us,h1,h6,by rw [h6.1,cL h4],λw' hs j v hv=> ?_⟩)
    rw [hs.st _ _ (h7 j (by rw [←h6.1];exact (List.getElem?_eq_some_iff.1 hv).1))];exact h8 j v hv
 case row sz id off n=>
  split at h
  ·rename_i cs hid
   cases hb:(beq sz size&&ble ((off+n)*size) cs.length) with
   |false=>rw [hb] at h;cases h
   |true=>
    rw [hb] at h;injection h with h;subst h
    simp only [and_eq_true] at hb
    have hsz:=eq_of_beq_eq_true hb.1
    have hle:=le_of_ble_eq_true hb.2
    subst hsz
    obtain ⟨b,c,h1,h2,h3,h4,h5,rfl⟩:=hx.row_inv
    obtain ⟨b',q1,⟨us,t,q2,q3,q4,q5⟩,_⟩:=r.obj id _ hid rfl
    rw [h1] at q1;injection q1 with q1;subst q1
    rw [add_mul] at hle
    have hl:((cs.drop (off*sz)).take (n*sz)).length=n*sz:=by simp;omega
    obtain ⟨k1,k2,k3⟩:=gF hl
    have hv:=(q4.drop (off*sz)).take (n*sz)
    rw [k1,k3]
    refine .inr (.inl ⟨b,off*sz,c,_,rfl,hv,by rw [hv.1,hl],λw' hs j v hv=> ?_⟩)
    rw [cell?,hs.obj id _ b hid rfl h1,q2]
    simp only [getElem?_take,getElem?_drop] at hv
    split at hv
    ·split at hv
     ·simpa using hv
     ·cases hv
    ·cases hv
  ·cases h
 case sl id off n cap=>
  split at h
  ·rename_i cs hid
   cases hb:ble (off+n*size) cs.length with
   |false=>rw [hb] at h;cases h
   |true=>
    rw [hb] at h;injection h with h;subst h
    have hle:=le_of_ble_eq_true hb
    obtain ⟨b,h1,rfl⟩:=hx.sl_inv
    obtain ⟨b',q1,⟨us,t,q2,q4,q5⟩,_⟩:=r.obj id _ hid rfl
    rw [h1] at q1;injection q1 with q1;subst q1
    have hl:((cs.drop off).take (n*size)).length=n*size:=by simp;omega
    obtain ⟨k1,k2,k3⟩:=gF hl
    have hv:=(q4.drop off).take (n*size)
    rw [k1,k3]
    refine .inr (.inl ⟨b,off,cap,_,rfl,hv,by rw [hv.1,hl],λw' hs j v hv=> ?_⟩)
    rw [cell?,hs.obj id _ b hid rfl h1,q2]
    simp only [getElem?_take,getElem?_drop] at hv
    split at hv
    ·simpa using hv
    ·cases hv
  ·rename_i cs hid
   cases hb:ble (off+n*size) cs.length with
   |false=>rw [hb] at h;cases h
   |true=>
    rw [hb] at h;injection h with h;subst h
    have hle:=le_of_ble_eq_true hb
    obtain ⟨b,h1,rfl⟩:=hx.sl_inv
    obtain ⟨b',q1,⟨us,t,q2,q3,q4,q5⟩,_⟩:=r.obj id _ hid rfl
    rw [h1] at q1;injection q1 with q1;subst q1
    have hl:((cs.drop off).take (n*size)).length=n*size:=by simp;omega
    obtain ⟨k1,k2,k3⟩:=gF hl
    have hv:=(q4.drop off).take (n*size)
    rw [k1,k3]
    refine .inr (.inl ⟨b,off,cap,_,rfl,hv,by rw [hv.1,hl],λw' hs j v hv=> ?_⟩)
    rw [cell?,hs.obj id _ b hid rfl h1,q2]
    simp only [getElem?_take,getElem?_drop] at hv
    split at hv
    ·split at hv
     ·simpa using hv
     ·cases hv
    ·cases hv
  ·cases h
theorem IT (r:RW g T w){s d:TypeId}{x y:TV}{u:Value}(h:g9 P T s d x=some y)(hx:VR g w x u):Looks P g T w (convert s d u) y:=by
 unfold g9 at h
 split at h
 ·rename_i e hs hd
  split at h
  ·rename_i he
   split at h
   ·cases h
   ·rename_i hnv
    split at h
    ·rename_i es hr
     simp only [map_eq_some_iff] at h
     obtain ⟨l,hb,rfl⟩:=h
     rcases E4 r hnv hr hx with ⟨rfl,rfl⟩ | ⟨b,o,c,us,rfl,h1,h2,h3⟩ | ⟨a,rfl,rfl⟩
     rotate_left 2
     ·injection hb with hb;subst hb
      refine .of_ok (.val _) λw'=> ?_
      rw [run_convert_bytes_string w' s d e (some a) 0 0 hs he hd]
      simp [Conv.bytesToString,loadCells,loadCellsFrom];rfl
     ·injection hb with hb;subst hb
      refine .of_ok (.val _) λw'=> ?_
      rw [run_convert_bytes_string w' s d e none 0 0 hs he hd]
      simp [Conv.bytesToString];rfl
     ·have hus:=w9 hb h1
      subst hus
      refine ⟨_,.val _,λw' hsame=> ?_⟩
      rw [run_convert_bytes_string w' s d e _ _ _ hs he hd]
      have hl:=run_loadCells_list (P:=P) w' ⟨b,o,none⟩ (l.map (Value.int .u8)) (λj v hv=>by rw [Addr.add_none];exact h3 w' hsame j v hv)
      rw [h2,mul_one] at hl
      rw [run_bytesToString w' _ _ _ l hl,GV]
    ·cases h
  ·cases h
 ·cases h
theorem Fp {kt:TypeId}{sh:KS}(hsh:gn P kt=some sh){k:Value}(hk:sh.fits k=true)(w:World):∀(ms:List MapEntry) (i:Nat),(∀e∈ms,sh.fits e.key=true)→
  (findAsking kt k ms i).run P w=.ok ((ms.zipIdx i).findSome? λp=>bif aT k p.1.key then some (p.2,p.1.val) else none) w
 |[],i,_=>by simp [findAsking]
 |e::ms,i,h=>by
  have he:=vE hsh hk (h e (by simp)) w
  simp only [findAsking,run_bind,he,andThen_ok,zipIdx_cons,List.findSome?_cons]
  cases hq:aT k e.key with
  |true=>simp
  |false=>
   simp only [Bool.false_eq_true,if_false,cond_false]
   exact Fp hsh hk w ms (i+1) λe' he'=>h e' (by simp [he'])
theorem xa {kd:TypeDesc}{sh:KS}{kt:TypeId}(hu:P.underlying kt=some kd)(hsh:gn P kt=some sh){k:Value}(hk:sh.fits k=true):∀(ms:List MapEntry) (i:Nat),(∀e∈ms,sh.fits e.key=true)→
  ∀a,findNow kd k ms i=some a→a=(ms.zipIdx i).findSome? λp=>bif aT k p.1.key then some (p.2,p.1.val) else none
 |[],i,_,a,h=>by simp [findNow] at h;simp [h]
 |e::ms,i,hf,a,h=>by
  simp only [zipIdx_cons,List.findSome?_cons]
  have hfe:=hf e (by simp)
  have hsame:∀b,sameNow kd k e.key=some b→b=aT k e.key:=by
   intro b hb
   unfold sameNow at hb
   split at hb
   ·split at hb
    ·rename_i h1;subst h1;injection hb with hb;subst hb;simp [*,aT,dh]
    ·cases hb
   ·injection hb with hb;subst hb;simp [*,aT,dh]
   ·injection hb with hb;subst hb;simp [*,aT,dh]
   ·cases hb
  unfold findNow at h
  split at h
  ·rename_i hs
   have:=hsame _ hs
   injection h with h;subst h
   rw [←this];simp
  ·rename_i hs
   have:=hsame _ hs
   rw [←this]
   simp only [cond_false]
   exact xa hu hsh hk ms (i+1) (λe' he'=>hf e' (by simp [he'])) a h
  ·cases h
theorem rN {kt:TypeId}{sh:KS}(hsh:gn P kt=some sh){k:Value}(hk:sh.fits k=true)(w:World)(ms:List MapEntry)(h:∀e∈ms,sh.fits e.key=true):
  (findKey kt k ms).run P w=.ok ((ms.zipIdx 0).findSome? λp=>bif aT k p.1.key then some (p.2,p.1.val) else none) w:=by
 obtain ⟨kd,hu,_⟩:=(jM (P:=P) 6 kt sh hsh).isA
 simp only [findKey,run_bind,run_underlying hu,andThen_ok]
 split
 ·rename_i a ha
  rw [run_pure,xa hu hsh hk ms 0 h a ha]
 ·exact Fp hsh hk w ms 0 h
theorem Fq {k:Value}:∀{es:List (Value × TV × Nat)} {ms:List MapEntry} (i:Nat),ms.map (·.key)=es.map (·.1)→VRs g w (es.map (·.2.1)) (ms.map (·.val))→
  (s6 k es=none∧((ms.zipIdx i).findSome? λp=>bif aT k p.1.key then some (p.2,p.1.val) else none)=none)∨
  ∃x j v,s6 k es=some x∧((ms.zipIdx i).findSome? λp=>bif aT k p.1.key then some (p.2,p.1.val) else none)=some (i+j,v)∧VR g w x v∧(∃e m,es[j]?=some e∧ms[j]?=some m∧aT k e.1=true∧m.key=e.1∧m.val=v∧x=e.2.1)∧(∀j',j' <j→∀e,es[j']?=some e→aT k e.1=false)
 |[],[],i,_,_=>.inl ⟨rfl,rfl⟩
 |[],_::_,i,h,_=>by simp at h
 |_::_,[],i,h,_=>by simp at h
 |e::es,m::ms,i,h,hv=>by
  simp only [List.map_cons,List.cons.injEq] at h
  obtain ⟨h1,h2⟩:=h
  simp only [List.map_cons] at hv
  have hv0:VR g w e.2.1 m.val:=hv.2 0 _ _ rfl rfl
  have hv1:VRs g w (es.map (·.2.1)) (ms.map (·.val)):=⟨by simpa using hv.1,λj x u hx hu=>hv.2 (j+1) x u hx hu⟩
  simp only [s6,zipIdx_cons,List.findSome?_cons,h1]
  cases hq:aT k e.1 with
  |true=>
   simp only [cond_true]
   exact .inr ⟨_,0,_,rfl,rfl,hv0,⟨e,m,rfl,rfl,hq,h1,rfl,rfl⟩,λj' hj=>by omega⟩
  |false=>
   simp only [cond_false]
   rcases Fq (i+1) h2 hv1 with h3 | ⟨x,j,v,h3,h4,h5,⟨e',m',h6,h7,h8⟩,h9⟩
   ·exact .inl h3
   ·refine .inr ⟨x,j+1,v,h3,?_,h5,⟨e',m',h6,h7,h8⟩,λj' hj e2 he2=> ?_⟩
    ·rw [h4];congr 2;omega
    ·cases j' with
     |zero=>simp at he2;subst he2;exact hq
     |succ j'=>exact h9 j' (by omega) e2 he2
end
section
variable {P:Program}{g:Gh}{T:VT}{w:World}
def Lx:CK→CK→Bool
 | .int a,.int b=>decide (a=b)
 | .bool,.bool=>true
 | .str,.str=>true
 |_,_=>false
def uO:List CK→List CK→Bool
 |[],[]=>true
 |a::al,b::bl=>Lx a b&&uO al bl
 |_,_=>false
def y9 (a b:KS):Bool:=(a.agg==b.agg)&&uO a.ks b.ks
theorem Pq {a b:CK}(h:Lx a b=true):a=b:=by
 cases a<;>cases b<;>simp [Lx] at h<;>simp [h]
theorem Co:∀{a b:List CK},uO a b=true→a=b
 |[],[],_=>rfl
 |[],_::_,h=>by simp [uO] at h
 |_::_,[],h=>by simp [uO] at h
 |a::al,b::bl,h=>by
  simp only [uO,and_eq_true] at h
  rw [Pq h.1,Co h.2]
theorem Pr {a b:KS}(h:y9 a b=true):a=b:=by
 simp only [y9,and_eq_true,beq_iff_eq] at h
 cases a;cases b
 simp at h
 rw [h.1,Co h.2]
def GW (z:Value):TV:=match z with
 | .agg us=>.agg (us.toList.map .val)
 |v=>.val v
theorem Fr (z:Value):VR g w (GW z) z:=by
 unfold GW
 split
 ·rename_i us
  have:=VR.mk_agg (VRs.vals g w us.toList)
  simpa using this
 ·exact .val _
def ou (ok:Bool)(o:Option TV)(z:Value):TV:=match o with
 |some x=>bif ok then .tup [x,.val (.bool true)] else x
 |none=>bif ok then .tup [GW z,.val (.bool false)] else GW z
def hJ (P:Program)(T:VT)(t:TypeId)(m k:TV)(ok:Bool):Option TV:=match P.underlying t,ea k with
 |some (.map kt et),some kv=>match gn P kt,P.info? et with
  |some sh,some i=>match i.zero with
   |some z=>bif sh.fits kv then (match m with
    | .val (.map none)=>some (ou ok none z)
    | .map id=>match T.objs[id]? with
     |some (.map sh' look _ _)=>bif y9 sh sh' then some (ou ok (look kv) z) else none
     |_=>none
    |_=>none) else none
   |none=>none
  |_,_=>none
 |_,_=>none
theorem rO {ok:Bool}{z:Value}{o:Option TV}{v:Option Value}(h:match o,v with | some x,some u=>VR g w x u | none,none=>True | _,_=>False):
  VR g w (ou ok o z) (match v with | some u=>(if ok then .tuple #[u,.bool true] else u) | none=>(if ok then .tuple #[z,.bool false] else z)):=by
 cases o<;>cases v<;>simp only at h<;>cases ok<;>simp only [ou,cond_true,cond_false,if_true,Bool.false_eq_true,if_false]
 ·exact Fr z
 ·exact .mk_tup (us:= [z,.bool false]) (.cons (Fr z) (.cons (.val _) (.nil g w)))
 ·exact h
 ·exact .mk_tup (us:= [_,.bool true]) (.cons h (.cons (.val _) (.nil g w)))
theorem xc (r:RW g T w){t:TypeId}{m k y:TV}{ok:Bool}{um uk:Value}(h:hJ P T t m k ok=some y)(hm:VR g w m um)(hk:VR g w k uk):Looks P g T w (Instr.lookup t um uk ok) y:=by
 unfold hJ at h
 split at h
 ·rename_i kt et kv hu hkv
  have hkv':=ef hkv hk
  subst hkv'
  split at h
  ·rename_i sh i hsh hi
   split at h
   ·rename_i z hz
    cases hf:sh.fits uk with
    |false=>rw [hf] at h;cases h
    |true=>
     rw [hf] at h
     simp only [cond_true] at h
     have hzero:∀w',(zeroValue et).run P w'=.ok z w':=λw'=>by simp [zeroValue,typeInfo,hi,hz]
     split at h
     ·injection h with h;subst h
      rw [hm.val_inv]
      refine ⟨_,rO (v:=none) (o:=none) trivial,λw' _=> ?_⟩
      have hfk:=rN hsh hf w' [] (by simp)
      simp only [List.zipIdx_nil,List.findSome?_nil] at hfk
      simp [Instr.lookup,run_underlying hu,qx hsh hf,hfk,hzero]
     ·rename_i id
      split at h
      ·rename_i sh' look es ck hid
       cases hq:y9 sh sh' with
       |false=>rw [hq] at h;cases h
       |true=>
        rw [hq] at h
        have:=Pr hq
        subst this
        injection h with h;subst h
        obtain ⟨b,hb,rfl⟩:=hm.map_inv
        obtain ⟨b',h1,⟨ms,h2,h3,h4,h5,h6,h7,h8⟩,_⟩:=r.obj id _ hid rfl
        rw [hb] at h1;injection h1 with h1;subst h1
        have hfit:∀e∈ms.toList,sh.fits e.key=true:=λe he=>by
         have:e.key∈ms.toList.map (·.key):=List.mem_map_of_mem he
         rw [h3] at this
         obtain ⟨e',he',heq⟩:=List.mem_map.1 this
         rw [←heq];exact h6 e' he'
        rw [h8 uk hf]
        have hget:∀w',Same g T w w'→w'.heap[b]?=some (.map ms ck):=λw' hs=>(hs.obj id _ b hid rfl hb).trans h2
        rcases Fq (k:=uk) 0 h3 h4 with ⟨g1,g2⟩ | ⟨x,j,v,g1,g2,g3,_⟩
        ·rw [g1]
         refine ⟨_,rO (v:=none) (o:=none) trivial,λw' hs=> ?_⟩
         have hfk:=rN hsh hf w' ms.toList hfit
         rw [g2] at hfk
         simp [Instr.lookup,run_underlying hu,getObj,Sem.run,hget w' hs,qx hsh hf,hfk,hzero]
        ·rw [g1]
         refine ⟨_,rO (v:=some v) (o:=some x) g3,λw' hs=> ?_⟩
         have hfk:=rN hsh hf w' ms.toList hfit
         rw [g2] at hfk
         simp [Instr.lookup,run_underlying hu,getObj,Sem.run,hget w' hs,qx hsh hf,hfk]
      ·cases h
     ·cases h
   ·cases h
  ·cases h
 ·cases h
end
section
variable {P:Program}{g:Gh}{T:VT}{w:World}
@[irreducible] def uP (P:Program)(ro:Nat)(T:VT)(t:TypeId)(m k v:TV):Option (TV × VT):=(λ_=>none) (P,ro,T,t,m,k,v)
theorem xe (r:RW g T w){ro:Nat}{t:TypeId}{m k v y:TV}{um uk uv:Value}{T':VT}(h:uP P ro T t m k v=some (y,T'))(hm:VR g w m um)(hk:VR g w k uk)(hv:VR g w v uv):
  ∃g' w',(Instr.mapUpdate t um uk uv).run P w=.ok () w'∧VR g' w' y undef∧Evo g w g' w'∧RW g' T' w'∧Fix ro g T w T' w':=by
 have _u:=r
 have _u:=hm
 have _u:=hk
 have _u:=hv
 unfold uP at h
 cases h
def mu (P:Program)(T:VT)(t:TypeId)(r:Option TV):Option (TV × VT):=match P.underlying t with
 |some (.map kt _)=>match gn P kt with
  |some sh=>(match r with
   |none=>some (.map T.objs.length,{T with objs:=T.objs++ [.map sh (λ_=>none) [] 0]})
   |some (.val (.int _ _))=>some (.map T.objs.length,{T with objs:=T.objs++ [.map sh (λ_=>none) [] 0]})
   |_=>none)
  |none=>none
 |_=>none
theorem E5 (r:RW g T w){t:TypeId}{x:Option TV}{u:Option Value}{y:TV}{T':VT}(h:mu P T t x=some (y,T'))(hx:BR g w x u):Does P g T w (Instr.makeMap t u) y T'∧T'.objs.take T.objs.length=T.objs:=by
 unfold mu at h
 split at h
 ·rename_i kt et hu
  split at h
  ·rename_i sh hsh
   have go:∀(hrun:(Instr.makeMap t u).run P w=.ok (.map (some w.heap.size)) (w.alloc (.map #[] 0))),Does P g T w (Instr.makeMap t u) (.map T.objs.length) {T with objs:=T.objs++ [.map sh (λ_=>none) [] 0]}:=by
    intro hrun
    have hor:OR g (w.alloc (.map #[] 0)) w.heap.size (.map sh (λ_=>none) [] 0):=
     ⟨#[],heap_alloc_new w _,by simp,by simpa using VRs.nil g _,by simp,by simp,by simp,λk _=>rfl⟩
    obtain ⟨g',r',e',hg,_⟩:=r.new (.map #[] 0) (o:=.map sh (λ_=>none) [] 0) rfl hor
    exact ⟨_,g',_,hrun,.map hg,e',r',Same.of_gr r ((Gr.refl w).alloc _)⟩
   split at h
   ·injection h with h;injection h with e1 e2;subst e1 e2
    cases u with
    |some _=>cases hx
    |none=>exact ⟨go (by simp [Instr.makeMap,newObj,Sem.run]),by simp⟩
   ·injection h with h;injection h with e1 e2;subst e1 e2
    cases u with
    |none=>cases hx
    |some u=>
     rw [VR.val_inv hx]
     exact ⟨(by rw [VR.val_inv hx] at go;exact go (by simp [Instr.makeMap,run_underlying hu,asInt,asIntOf,newObj,Sem.run])),by simp⟩
   ·cases h
  ·cases h
 ·cases h
end
section
variable {P:Program}{g:Gh}{T:VT}{w:World}
theorem IU {z:Value}(hz1:∀u∈z.cells.toList,u.oneCell'=true)(n:Nat):∀u∈(zeroCells z.cells n).toList,u.oneCell'=true:=by
 intro u hu
 rw [mem_toList_iff] at hu
 obtain ⟨j,hj,rfl⟩:=getElem_of_mem hu
 rw [size_zeroCells] at hj
 have hzp:0<z.cells.size:=by
  rcases Nat.eq_zero_or_pos z.cells.size with h0 | h0
  ·rw [h0,Nat.mul_zero] at hj;omega
  ·exact h0
 have:(zeroCells z.cells n)[j]'(by rw [size_zeroCells];exact hj)=z.cells[j%z.cells.size]'(mod_lt _ hzp):=by
  simp only [zeroCells,getElem_map,getElem_range]
  exact getElem!_pos z.cells (j%z.cells.size) (mod_lt _ hzp)
 rw [this]
 exact hz1 _ (mem_toList_iff.2 (Array.getElem_mem _))
theorem IV (r:RW g T w){t tn ty e:TypeId}{i:TypeInfo}{z:Value}{kq kn:IntKind}(ht:P.underlying t=some (.slice e))(htn:P.underlying tn=some (.int kn))(hi:P.info? e=some i)(hz:i.zero=some z)(hzs:z.cells.size=i.size)
  (hz1:∀u∈z.cells.toList,u.oneCell'=true) {k:Nat} (h0:0<k) (hs:0<i.size) (hb:k*(i.bytes+1)≤140737488355328):
  ∃u g' w',(append_ #[t,tn] ty #[.slice none 0 0,.int kq k]).run P w=.ok u w'∧VR g' w' (.row i.size T.objs.length 0 k) u∧Evo g w g' w'∧RW g' (T.newRow ((zeroCells z.cells k).toList.map .val)) w'∧Gr w w':=by
 rw [Nat.mul_add,mul_one] at hb
 have hrun:=Go.Lib.run_append_grow_zeros (P:=P) w t tn ty e i z kq kn ht htn hi hz none 0 0 [] (run_firstCells_none w.drew i.size 0 0 0) k h0 hs (by omega) (by omega) (by omega) (growslice_fits (bytes:=i.bytes) (by omega) (by rw [zero_add];omega))
 simp only [zero_add] at hrun
 have hge:=grownCap_ge w k 0 e
 have hle:=grownCap_le_maxLen w k 0 e (by unfold maxLen;omega)
 generalize hcap:grownCap w k 0 e=cap at hrun hge hle
 have e0:((#[]:Array Value)++zeroCells z.cells k++zeroCells z.cells (cap-k))=((zeroCells z.cells k).toList++(zeroCells z.cells (cap-k)).toList).toArray:=by
  apply ext'
  simp
 have hxs:((zeroCells z.cells k).toList++(zeroCells z.cells (cap-k)).toList).toArray.size=cap*i.size:=by
  simp only [size_toArray,List.length_append,Array.length_toList,size_zeroCells,hzs,Nat.sub_mul]
  have:k*i.size≤cap*i.size:=Nat.mul_le_mul_right _ hge
  omega
 rw [show ([]:List Value).toArray= #[] from rfl,e0] at hrun
 have hgr:Gr w (w.drew.alloc (.cells ((zeroCells z.cells k).toList++(zeroCells z.cells (cap-k)).toList).toArray e)):=(Gr.refl w).drew.alloc _
 have hnew:(w.drew.alloc (.cells ((zeroCells z.cells k).toList++(zeroCells z.cells (cap-k)).toList).toArray e)).heap[w.heap.size]?=some (.cells ((zeroCells z.cells k).toList++(zeroCells z.cells (cap-k)).toList).toArray e):=heap_alloc_new w.drew _
 generalize w.drew.alloc (.cells ((zeroCells z.cells k).toList++(zeroCells z.cells (cap-k)).toList).toArray e)=w' at*
 have e1:=Evo.of_gr r hgr
 have ro:OR g w' w.heap.size (.row ((zeroCells z.cells k).toList.map .val)):=by
  refine ⟨_,e,hnew,?_,?_,?_⟩
  ·simp
  ·rw [List.length_map,take_left']
   ·exact VRs.vals g w' _
   ·rfl
  ·intro u hu
   rcases mem_append.1 (mem_of_mem_take hu) with hu | hu
   ·exact IU hz1 _ u hu
   ·exact IU hz1 _ u hu
 have r1:=(r.gr hgr).addObj (r.fresh (le_refl _)) (o:=.row ((zeroCells z.cells k).toList.map .val)) rfl ro
 have e2:=e1.trans (Evo.addObj (w:=w') (b:=w.heap.size) (r.out T.objs.length (le_refl _)))
 have hlt:w.heap.size<w'.heap.size:=(Array.getElem?_eq_some_iff.1 hnew).1
 have hcz:cf w' w.heap.size=cap*i.size:=by rw [cp hnew];exact hxs
 refine ⟨_,_,_,hrun,?_,e2,r1,hgr⟩
 have:=VR.row (g:=g.addObj T.objs.length w.heap.size) (w:=w') (size:=i.size) (id:=T.objs.length) (off:=0) (n:=k) (b:=w.heap.size) (c:=cap) (by simp [Gh.addObj]) hlt hge hle (by rw [hcz,zero_add])
 rw [zero_mul] at this
 exact this
def xf (P:Program)(T:VT)(t tx:TypeId)(s x:TV):Option (TV × VT):=match P.underlying t,P.underlying tx,s,x with
 |some (.slice e),some (.int _),.val (.slice none 0 0),.val (.int _ l)=>match P.info? e with
  |some i=>match i.zero with
   |some z=>bif decide (0<l)&&ble (l.toNat*(i.bytes+1)) 140737488355328&&decide (z.cells.size=i.size)&&decide (0<i.size)&&z.cells.toList.all oneCell' then
     some (.row i.size T.objs.length 0 l.toNat,T.newRow ((zeroCells z.cells l.toNat).toList.map .val)) else none
   |none=>none
  |none=>none
 |_,_,_,_=>none
theorem Ly (r:RW g T w){ro:Nat}{t tx ty:TypeId}{s x y:TV}{us ux:Value}{T':VT}(h:xf P T t tx s x=some (y,T'))(hs:VR g w s us)(hx:VR g w x ux):
  ∃u g' w',(append_ #[t,tx] ty #[us,ux]).run P w=.ok u w'∧VR g' w' y u∧Evo g w g' w'∧RW g' T' w'∧Fix ro g T w T' w':=by
 unfold xf at h
 split at h
 ·rename_i e kn kq l ht htn
  split at h
  ·rename_i i hi
   split at h
   ·rename_i z hz
    cases hb:(decide (0<l)&&ble (l.toNat*(i.bytes+1)) 140737488355328&&decide (z.cells.size=i.size)&&decide (0<i.size)&&z.cells.toList.all oneCell') with
    |false=>rw [hb] at h;cases h
    |true=>
     rw [hb] at h
     simp only [and_eq_true,decide_eq_true_eq] at hb
     obtain ⟨⟨⟨⟨b1,b2⟩,b3⟩,b4⟩,b5⟩:=hb
     injection h with h;injection h with h1 h2;subst h1 h2
     rw [hs.val_inv,hx.val_inv]
     have hl:l=((l.toNat:Nat):Int):=by omega
     obtain ⟨u,g',w',e1,e2,e3,e4,e5⟩:=IV (ty:=ty) (kq:=kq) r ht htn hi hz b3 (all_eq_true.1 b5) (k:=l.toNat) (by omega) b4 (le_of_ble_eq_true b2)
     rw [←hl] at e1
     exact ⟨u,g',w',e1,e2,e3,e4,Fix.of_same (Same.of_gr r e5) (gG _ _)⟩
   ·cases h
  ·cases h
 ·cases h
end
section
variable {P:Program}{g:Gh}{T:VT}{w:World}
theorem te {t:TypeId}{i:TypeInfo}(hi:P.info? t=some i)(h1:i.size=1){a:Addr}{k:IntKind}{n:Int}{w':World}{v0:Value}(hc:w.cell? a=some v0)(h:(storeAt t (.pointer (some a)) (.int k n)).run P w=.ok () w'):(store a (.int k n) .atomic).run P w=.ok () w':=by
 simp [storeAt,sureAddr,storeVar,run_bind,bO hi,h1,storeCells,Value.cells] at h
 have e:a.add 0=a:=by cases a;simp [Addr.add]
 simp only [store,Sem.run,e,hc] at h ⊢
 exact h
theorem GX {fn:Func}(h:fn.name= "sync/atomic.AddInt64"):find fn=some (Extern.Atomic.update (Op.intArith .add) .i64 true):=by
 unfold find
 simp only [h]
 rw [show (allGenericRows.lookup "sync/atomic.AddInt64")=none by kernel_rfl,show (allTypedRows.lookup "sync/atomic.AddInt64")=none by kernel_rfl,show (allRows.lookup "sync/atomic.AddInt64")=some (Extern.Atomic.update (Op.intArith .add) .i64 true) by kernel_rfl]
 rfl
theorem Cp {fn:Func}(h:fn.name= "sync/atomic.StoreInt64"):find fn=some Extern.Atomic.storeT:=by
 unfold find
 simp only [h]
 rw [show (allGenericRows.lookup "sync/atomic.StoreInt64")=none by kernel_rfl,show (allTypedRows.lookup "sync/atomic.StoreInt64")=none by kernel_rfl,show (allRows.lookup "sync/atomic.StoreInt64")=some Extern.Atomic.storeT by kernel_rfl]
 rfl
theorem E6 {fn:Func}(h:fn.name= "sync/atomic.LoadInt64"):find fn=some (Extern.Atomic.loadT (.int .i64)):=by
 unfold find
 simp only [h]
 rw [show (allGenericRows.lookup "sync/atomic.LoadInt64")=none by kernel_rfl,show (allTypedRows.lookup "sync/atomic.LoadInt64")=none by kernel_rfl,show (allRows.lookup "sync/atomic.LoadInt64")=some (Extern.Atomic.loadT (.int .i64)) by kernel_rfl]
 rfl
theorem E7 {fn:Func}(h:fn.name= "sync/atomic.LoadUint32"):find fn=some (Extern.Atomic.loadT (.int .u32)):=by
 unfold find
 simp only [h]
 rw [show (allGenericRows.lookup "sync/atomic.LoadUint32")=none by kernel_rfl,show (allTypedRows.lookup "sync/atomic.LoadUint32")=none by kernel_rfl,show (allRows.lookup "sync/atomic.LoadUint32")=some (Extern.Atomic.loadT (.int .u32)) by kernel_rfl]
 rfl
theorem GY {fn:Func}(h:fn.name= "maps.clone"):find fn=some Extern.MapsClone.clone:=by
 unfold find
 simp only [h]
 rw [show (allGenericRows.lookup "maps.clone")=none by kernel_rfl,show (allTypedRows.lookup "maps.clone")=none by kernel_rfl,show (allRows.lookup "maps.clone")=some Extern.MapsClone.clone by kernel_rfl]
 rfl
theorem Cq {r:Nat}{es:Array MapEntry}{clock:Nat}(t:TypeId)(hb:w.heap[r]?=some (.map es clock)):
  (Extern.MapsClone.clone [.iface t (.map (some r))].toArray).run P w=.ok (.iface t (.map (some w.heap.size))) (w.alloc (.map es clock)):=by
 have e:Extern.MapsClone.clone [.iface t (.map (some r))].toArray=(getObj r>>=λo=>match o with
   | .map entries clock=>(newObj (.map entries clock)>>=λn=>pure (.iface t (.map (some n))))
   |_=>stuck "maps.clone: a map expected"):=rfl
 have h1:(getObj r).run P w=.ok (.map es clock) w:=by simp [getObj,Sem.run,hb]
 rw [e,run_bind,h1]
 simp [newObj,Sem.run,andThen]
def uQ (T:VT)(p:TV):Option TV:=match p with
 | .ptr id off=>match T.objs[id]? with
  |some (.cells cs)=>cs[off]?
  |_=>none
 | .elt (c::_)=>some c
 |_=>none
theorem rP (r:RW g T w){p y:TV}{u:Value}(h:uQ T p=some y)(hp:VR g w p u):∃a v,u=.pointer (some a)∧w.cell? a=some v∧VR g w y v∧∀w',Same g T w w'→w'.cell? a=some v:=by
 unfold uQ at h
 split at h
 ·rename_i id off
  split at h
  ·rename_i cs hid
   obtain ⟨b,hb,rfl⟩:=hp.ptr_inv
   obtain ⟨b',h4,⟨us,ty,h5,h6,h7⟩,_⟩:=r.obj id _ hid rfl
   rw [hb] at h4;injection h4 with h4;subst h4
   obtain ⟨v,hv,hvr⟩:=h6.at h
   have hc:∀w':World,w'.heap[b]?=w.heap[b]?→w'.cell? ⟨b,off,none⟩=some v:=λw' hh=>by
    unfold cell?
    simp only [hh,h5]
    simpa using hv
   exact ⟨_,v,rfl,hc w rfl,hvr,λw' hs=>hc w' (hs.obj id _ b hid rfl hb)⟩
  ·cases h
 ·rename_i c cs
  injection h with h;subst h
  obtain ⟨b,o,us,rfl,h1,h2,h3,h4⟩:=hp.elt_inv
  obtain ⟨v,hv,hvr⟩:=h1.at (j:=0) (x:=c) rfl
  have h5:=h3 0 v hv
  exact ⟨_,v,rfl,h5,hvr,λw' hs=>(hs.st b o (h2 0 (by simp))).trans h5⟩
 ·cases h
def LA (P:Program)(ro:Nat)(T:VT)(fn:Func)(xs:List TV):Option (TV × VT):=
 bif (findNext fn).isNone&&fn.body.isNone then
  bif fn.name== "sync/atomic.LoadInt64" then (match xs with
   |[p]=>match uQ T p with
    |some (.val (.int .i64 x))=>some (.val (.int .i64 x),T)
    |_=>none
   |_=>none)
  else bif fn.name== "sync/atomic.StoreInt64" then (match xs,fn.params.toList with
   |[.ptr id off,.val (.int k y)],[_,t]=>match uQ T (.ptr id off),P.info? t with
    |some _,some i=>bif beq i.size 1&&ble ro id then (match lE P T t (.ptr id off) (.val (.int k y)) with
     |some (_,T')=>some (.val (.tuple #[]),T')
     |none=>none) else none
    |_,_=>none
   |_,_=>none)
  else bif fn.name== "sync/atomic.AddInt64" then (match xs,fn.params.toList with
   |[.ptr id off,.val (.int _ y)],[_,t]=>match uQ T (.ptr id off),P.info? t with
    |some (.val (.int .i64 x)),some i=>bif beq i.size 1&&ble ro id then (match lE P T t (.ptr id off) (.val (.int .i64 (i64.wrap (x+y)))) with
     |some (_,T')=>some (.val (.int .i64 (i64.wrap (x+y))),T')
     |none=>none) else none
    |_,_=>none
   |_,_=>none)
  else bif fn.name== "sync/atomic.LoadUint32" then (match xs with
   |[p]=>match uQ T p with
    |some (.val (.int .u32 x))=>some (.val (.int .u32 x),T)
    |_=>none
   |_=>none)
  else bif fn.name== "maps.clone" then (match xs with
   |[.ifc t (.map id)]=>match T.objs[id]? with
    |some (.map sh look es ck)=>some (.ifc t (.map T.objs.length),{T with objs:=T.objs++ [.map sh look es ck]})
    |_=>none
   |_=>none)
  else none
 else none
theorem Cr (t:Extern.Atomic.T)(x:Value):Extern.Atomic.loadT t [x].toArray=(do Extern.Atomic.read t (←asAddr x)):=rfl
theorem IW (x y:Value):Extern.Atomic.storeT [x,y].toArray=(do store (←asAddr x) y .atomic;pure Extern.Atomic.none_):=rfl
theorem IX (op:IntKind→Int→Int→Sem Value)(k:IntKind)(b:Bool)(x y:Value):Extern.Atomic.update op k b [x,y].toArray=(do
 let a ←asAddr x
 let old ←Extern.Atomic.read (.int k) a
 let new ←op k (←asInt old) (←asInt y)
 store a new .atomic
 pure (if b then new else old)):=rfl
theorem jr {f:FuncId}{fn:Func}{e:Array Value→Sem Value}(hfn:P.funcs[f]?=some fn)(hnm:fn.name≠ "runtime.NumGoroutine")(hb:fn.body=none)(hn:findNext fn=none)(he:find fn=some e){args:Array Value}{v:Value}{w':World}(h:(e args).run P w=.ok v w'):
  (callFunc f args).run P w=.ok (.value v) w':=by
 simp [callFunc,hfn,hnm,hb,hn,he,mark,Sem.run,run_bind,h,andThen]
theorem Ps (r:RW g T w){ro:Nat}{f:FuncId}{fn:Func}{xs:List TV}{us:List Value}{y:TV}{T':VT}(hfn:P.funcs[f]?=some fn)(h:LA P ro T fn xs=some (y,T'))(hx:VRs g w xs us):
  ∃v g' w',(callFunc f us.toArray).run P w=.ok (.value v) w'∧VR g' w' y v∧Evo g w g' w'∧RW g' T' w'∧Fix ro g T w T' w':=by
 unfold LA at h
 cases hb:((findNext fn).isNone&&fn.body.isNone) with
 |false=>rw [hb] at h;cases h
 |true=>
  rw [hb] at h
  simp only [and_eq_true,Option.isNone_iff_eq_none] at hb
  obtain ⟨hn,hbody⟩:=hb
  simp only [cond_true] at h
  cases h1:(fn.name== "sync/atomic.LoadInt64") with
  |true=>
   rw [h1] at h
   have h1:fn.name= "sync/atomic.LoadInt64" :=by simpa using h1
   simp only [cond_true] at h
   split at h
   ·rename_i p
    split at h
    ·rename_i x hc
     injection h with h;injection h with e1 e2;subst e1 e2
     match us,hx with
     |[u],hx=>
      obtain ⟨a,v,hu,hw,hv,_⟩:=rP r hc (hx.2 0 p u rfl rfl)
      have hv:=hv.val_inv
      subst hu hv
      refine ⟨_,g,w,jr hfn (by rw [h1];decide) hbody hn (E6 h1) (v:=.int .i64 x) (w':=w) ?_,.val _,Evo.refl _ _,r,Fix.refl _ _ _ _⟩
      rw [Cr]
      simp [Extern.Atomic.read,asAddr,load,Sem.run,run_bind,hw,andThen]
     |[],hx=>have:=hx.1;simp at this
     |_::_::_,hx=>have:=hx.1;simp at this
    ·cases h
   ·cases h
  |false=>
   rw [h1] at h
   simp only [cond_false] at h
   cases h2:(fn.name== "sync/atomic.StoreInt64") with
   |true=>
    rw [h2] at h
    have h2:fn.name= "sync/atomic.StoreInt64" :=by simpa using h2
    simp only [cond_true] at h
    split at h
    ·rename_i id off k z t0 t hps
     split at h
     ·rename_i c i hc hi
      cases hb2:(beq i.size 1&&ble ro id) with
      |false=>rw [hb2] at h;cases h
      |true=>
       rw [hb2] at h
       simp only [and_eq_true] at hb2
       simp only [cond_true] at h
       split at h
       ·rename_i q T2 hst
        injection h with h;injection h with e1 e2;subst e1 e2
        match us,hx with
        |[u,v],hx=>
         have hp:=hx.2 0 _ u rfl rfl
         have hz:=(hx.2 1 _ v rfl rfl).val_inv
         subst hz
         obtain ⟨a,v0,hu,hw,_,_⟩:=rP r hc hp
         subst hu
         obtain ⟨g',w',k1,_,k3,k4,k5⟩:=nY (P:=P) r hst hp (.val _) (le_of_ble_eq_true hb2.2)
         have k6:=te hi (eq_of_beq_eq_true hb2.1) hw k1
         refine ⟨_,g',w',jr hfn (by rw [h2];decide) hbody hn (Cp h2) (v:=.tuple #[]) (w':=w') ?_,.val _,k3,k4,k5⟩
         rw [IW]
         simp [Extern.Atomic.none_,asAddr,k6,andThen]
        |[],hx=>have:=hx.1;simp at this
        |[_],hx=>have:=hx.1;simp at this
        |_::_::_::_,hx=>have:=hx.1;simp at this
       ·cases h
     ·cases h
    ·cases h
   |false=>
    rw [h2] at h
    simp only [cond_false] at h
    cases h3:(fn.name== "sync/atomic.AddInt64") with
    |false=>
     rw [h3] at h
     simp only [cond_false] at h
     cases h4:(fn.name== "sync/atomic.LoadUint32") with
     |true=>
      rw [h4] at h
      have h4:fn.name= "sync/atomic.LoadUint32" :=by simpa using h4
      simp only [cond_true] at h
      split at h
      ·rename_i p
       split at h
       ·rename_i x hc
        injection h with h;injection h with e1 e2;subst e1 e2
        match us,hx with
        |[u],hx=>
         obtain ⟨a,v,hu,hw,hv,_⟩:=rP r hc (hx.2 0 p u rfl rfl)
         have hv:=hv.val_inv
         subst hu hv
         refine ⟨_,g,w,jr hfn (by rw [h4];decide) hbody hn (E7 h4) (v:=.int .u32 x) (w':=w) ?_,.val _,Evo.refl _ _,r,Fix.refl _ _ _ _⟩
         rw [Cr]
         simp [Extern.Atomic.read,asAddr,load,Sem.run,run_bind,hw,andThen]
        |[],hx=>have:=hx.1;simp at this
        |_::_::_,hx=>have:=hx.1;simp at this
       ·cases h
      ·cases h
     |false=>
      rw [h4] at h
      simp only [cond_false] at h
      cases h5:(fn.name== "maps.clone") with
      |false=>rw [h5] at h;cases h
      |true=>
       rw [h5] at h
       have h5:fn.name= "maps.clone" :=by simpa using h5
       simp only [cond_true] at h
       split at h
       ·rename_i t id
        split at h
        ·rename_i sh look es ck hid
         injection h with h;injection h with e1 e2;subst e1 e2
         match us,hx with
         |[u],hx=>
          obtain ⟨v,rfl,hv⟩:=(hx.2 0 _ u rfl rfl).ifc_inv
          obtain ⟨b,hb,rfl⟩:=hv.map_inv
          obtain ⟨b',hb',⟨ms,hm,k1,k2,k3,k4⟩,_,_⟩:=r.obj id _ hid rfl
          rw [hb] at hb';injection hb' with hb';subst hb'
          have ev:=Evo.of_gr r ((Gr.refl w).alloc (.map ms ck))
          have hor:OR g (w.alloc (.map ms ck)) w.heap.size (.map sh look es ck):=⟨ms,heap_alloc_new w _,k1,k2.mono ev,k3,k4⟩
          obtain ⟨g',r',e',hg,_⟩:=r.new (.map ms ck) (o:=.map sh look es ck) rfl hor
          refine ⟨_,g',_,jr hfn (by rw [h5];decide) hbody hn (GY h5) (Cq (P:=P) t hm),.ifc (.map hg),e',r',Fix.of_same (Same.of_gr r ((Gr.refl w).alloc _)) (by simp)⟩
         |[],hx=>have:=hx.1;simp at this
         |_::_::_,hx=>have:=hx.1;simp at this
        ·cases h
       ·cases h
    |true=>
     rw [h3] at h
     have h3:fn.name= "sync/atomic.AddInt64" :=by simpa using h3
     simp only [cond_true] at h
     split at h
     ·rename_i id off k z t0 t hps
      split at h
      ·rename_i x i hc hi
       cases hb2:(beq i.size 1&&ble ro id) with
       |false=>rw [hb2] at h;cases h
       |true=>
        rw [hb2] at h
        simp only [and_eq_true] at hb2
        simp only [cond_true] at h
        split at h
        ·rename_i q T2 hst
         injection h with h;injection h with e1 e2;subst e1 e2
         match us,hx with
         |[u,v],hx=>
          have hp:=hx.2 0 _ u rfl rfl
          have hz:=(hx.2 1 _ v rfl rfl).val_inv
          subst hz
          obtain ⟨a,v0,hu,hw,hv0,_⟩:=rP r hc hp
          have hv0:=hv0.val_inv
          subst hu hv0
          obtain ⟨g',w',k1,_,k3,k4,k5⟩:=nY (P:=P) r hst hp (.val _) (le_of_ble_eq_true hb2.2)
          have k6:=te hi (eq_of_beq_eq_true hb2.1) hw k1
          refine ⟨_,g',w',jr hfn (by rw [h3];decide) hbody hn (GX h3) (v:=.int .i64 (i64.wrap (x+z))) (w':=w') ?_,.val _,k3,k4,k5⟩
          have rd:(Extern.Atomic.read (.int .i64) a).run P w=.ok (.int .i64 x) w:=by
           simp [Extern.Atomic.read,load,Sem.run,run_bind,hw,andThen]
          rw [IX]
          simp [asAddr,asInt,asIntOf,Op.intArith,run_bind,rd,k6,andThen]
         |[],hx=>have:=hx.1;simp at this
         |[_],hx=>have:=hx.1;simp at this
         |_::_::_::_,hx=>have:=hx.1;simp at this
        ·cases h
      ·cases h
     ·cases h
end
section
variable {P:Program}{g:Gh}{T:VT}{w:World}
theorem Sc (r:RW g T w){ro id off b:Nat}{cs new:List TV}{vs:List Value}(hid:T.objs[id]?=some (.row cs))(hb:g.obj id=some b)(k:VRs g w new vs)(ho:∀v∈vs,v.oneCell'=true)(h2:off+new.length≤cs.length)(hr:ro≤id):
  ∃w',(storeCells ⟨b,off,none⟩ vs).run P w=.ok () w'∧Evo g w g w'∧RW g {T with objs:=T.objs.set id (.row (ci cs off new))} w'∧Fix ro g T w {T with objs:=T.objs.set id (.row (ci cs off new))} w':=by
 obtain ⟨b',h4,⟨us,ty,h5,h6,h7,h8⟩,_⟩:=r.obj id _ hid rfl
 rw [hb] at h4;injection h4 with h4;subst h4
 have hl:vs.length=new.length:=k.1
 have hrun:=run_storeCells_at (P:=P) b off ty vs 0 us.toArray w h5 (by simp at hl ⊢;omega) ho
 simp only [add_zero,hl] at hrun
 have hsr:=setRow_heap w b _ (us.take off++vs++us.drop (off+new.length)).toArray ty (0,0) h5
 have hll:(us.take off++vs++us.drop (off+new.length)).length=us.length:=by simp at hl ⊢;omega
 have hcs:cf (w.setRow b (us.take off++vs++us.drop (off+new.length)).toArray) b=cf w b:=by
  rw [cp hsr,cp h5,size_toArray,size_toArray,hll]
 have hoth:∀c,c≠b→(w.setRow b (us.take off++vs++us.drop (off+new.length)).toArray).heap[c]?=w.heap[c]?:=λc hc=>setRow_other w b c _ hc
 obtain ⟨_,e0⟩:=r.setObj hid rfl hb (o':=.gone) (w':=w.setRow b (us.take off++vs++us.drop (off+new.length)).toArray) ⟨rfl,rfl,rfl⟩ (by simp) hoth hcs (λh=>by cases h)
 have k2:=((((h7.take off).app k).app (h7.drop (off+new.length)))).mono e0
 have ht:(us.take off++vs++us.drop (off+new.length)).take (ci cs off new).length=(us.take cs.length).take off++vs++(us.take cs.length).drop (off+new.length):=by
  have hsl:(ci cs off new).length=cs.length:=by simp [ci];omega
  rw [hsl]
  apply ext_getElem?
  intro j
  rw [getElem?_take]
  have hA:(us.take off).length=off:=by simp;omega
  have hA2:((us.take cs.length).take off).length=off:=by simp;omega
  rcases lt_or_ge j cs.length with hj | hj
  ·rw [if_pos hj,append_assoc,append_assoc,getElem?_append (l₁:=us.take off),getElem?_append (l₁:=(us.take cs.length).take off),hA,hA2]
   split
   ·rename_i hjo
    simp [hjo,hj]
   ·rw [getElem?_append,getElem?_append]
    split
    ·rfl
    ·simp only [getElem?_drop,getElem?_take]
     rw [if_pos (by omega)]
  ·rw [if_neg (by omega)]
   symm
   apply List.getElem?_eq_none
   simp at hl ⊢;omega
 have o2:∀v∈(us.take off++vs++us.drop (off+new.length)).take (ci cs off new).length,v.oneCell'=true:=by
  rw [ht]
  intro v hv
  simp only [mem_append] at hv
  rcases hv with (hv | hv) | hv
  ·exact h8 v (mem_of_mem_take hv)
  ·exact ho v hv
  ·exact h8 v (mem_of_mem_drop hv)
 obtain ⟨r',e'⟩:=r.setObj hid rfl hb (o':=.row (ci cs off new)) (w':=w.setRow b (us.take off++vs++us.drop (off+new.length)).toArray) ⟨rfl,rfl,rfl⟩ (by simp) hoth hcs
  (λ_=>⟨_,ty,hsr,by rw [hll];simp [ci];omega,by rw [ht];exact k2,o2⟩)
 have hl:vs.length=new.length:=k.1
 exact ⟨_,by simpa using hrun,e',r',jL r hid rfl hb hr hoth⟩
def tf (P:Program)(ro:Nat)(T:VT)(t tx:TypeId)(d x:TV):Option (TV × VT):=match P.underlying t,d with
 |some (.slice e),.row sz id off m=>match P.info? e,T.objs[id]? with
  |some i,some (.row cs)=>match cd T i.size x with
   |some es=>bif beq i.size sz&&ble es.length m&&ble (off*sz+es.flatten.length) cs.length&&ble ro id&&gk (P.underlying tx) then
     some (.val (.int .i64 es.length),{T with objs:=T.objs.set id (.row (ci cs (off*sz) es.flatten))}) else none
   |none=>none
  |_,_=>none
 |_,_=>none
theorem IY (r:RW g T w){ro:Nat}{t tx ty:TypeId}{d x y:TV}{ud ux:Value}{T':VT}(h:tf P ro T t tx d x=some (y,T'))(hd:VR g w d ud)(hx:VR g w x ux):
  ∃u g' w',(copy_ #[t,tx] ty #[ud,ux]).run P w=.ok u w'∧VR g' w' y u∧Evo g w g' w'∧RW g' T' w'∧Fix ro g T w T' w':=by
 unfold tf at h
 split at h
 ·rename_i e sz id off m ht
  split at h
  ·rename_i i cs hi hid
   split at h
   ·rename_i es hes
    cases hb0:(beq i.size sz&&ble es.length m&&ble (off*sz+es.flatten.length) cs.length&&ble ro id&&gk (P.underlying tx)) with
    |false=>rw [hb0] at h;cases h
    |true=>
     rw [hb0] at h
     simp only [and_eq_true] at hb0
     obtain ⟨⟨⟨⟨b1,b2⟩,b3⟩,b4⟩,b5⟩:=hb0
     have b1:=eq_of_beq_eq_true b1
     subst b1
     injection h with h;injection h with e1 e2;subst e1 e2
     obtain ⟨news,sr,k2,z2⟩:=oJ (P:=P) r hes hx (qK b5)
     obtain ⟨b,c,f1,f2,f3,f4,f5,rfl⟩:=hd.row_inv
     obtain ⟨w',k1,k3,k4,k5⟩:=Sc (P:=P) r hid f1 k2 sr.one (le_of_ble_eq_true b3) (le_of_ble_eq_true b4)
     have hmin:Nat.min es.length m=es.length:=min_eq_left (le_of_ble_eq_true b2)
     refine ⟨_,g,w',?_,.val _,k3,k4,k5⟩
     simp [copy_,run_underlying ht,sizeOf,typeInfo,hi,sr.len,hmin,sr.cells,k1,goInt]
   ·cases h
  ·cases h
 ·cases h
theorem LB (r:RW g T w){ro id off b:Nat}{cs new:List TV}{vs:List Value}(hid:T.objs[id]?=some (.cells cs))(hb:g.obj id=some b)(k:VRs g w new vs)(ho:∀v∈vs,v.oneCell'=true)(h2:off+new.length≤cs.length)(hr:ro≤id):
  ∃w',(storeCells ⟨b,off,none⟩ vs).run P w=.ok () w'∧Evo g w g w'∧RW g {T with objs:=T.objs.set id (.cells (ci cs off new))} w'∧Fix ro g T w {T with objs:=T.objs.set id (.cells (ci cs off new))} w':=by
 obtain ⟨b',h4,⟨us,ty,h5,h6,h7⟩,_⟩:=r.obj id _ hid rfl
 rw [hb] at h4;injection h4 with h4;subst h4
 have hl:vs.length=new.length:=k.1
 have hus:us.length=cs.length:=h6.1
 have hrun:=run_storeCells_at (P:=P) b off ty vs 0 us.toArray w h5 (by simp at hl ⊢;omega) ho
 simp only [add_zero,hl] at hrun
 have hsr:=setRow_heap w b _ (us.take off++vs++us.drop (off+new.length)).toArray ty (0,0) h5
 have hcs:cf (w.setRow b (us.take off++vs++us.drop (off+new.length)).toArray) b=cf w b:=by
  rw [cp hsr,cp h5]
  simp at hl ⊢;omega
 have hoth:∀c,c≠b→(w.setRow b (us.take off++vs++us.drop (off+new.length)).toArray).heap[c]?=w.heap[c]?:=λc hc=>setRow_other w b c _ hc
 obtain ⟨_,e0⟩:=r.setObj hid rfl hb (o':=.gone) (w':=w.setRow b (us.take off++vs++us.drop (off+new.length)).toArray) ⟨rfl,rfl,rfl⟩ (by simp) hoth hcs (λh=>by cases h)
 have k2:=(((h6.take off).app k).app (h6.drop (off+new.length))).mono e0
 have o2:∀v∈us.take off++vs++us.drop (off+new.length),v.oneCell'=true:=by
  intro v hv
  simp only [mem_append] at hv
  rcases hv with (hv | hv) | hv
  ·exact h7 v (mem_of_mem_take hv)
  ·exact ho v hv
  ·exact h7 v (mem_of_mem_drop hv)
 obtain ⟨r',e'⟩:=r.setObj hid rfl hb (o':=.cells (ci cs off new)) (w':=w.setRow b (us.take off++vs++us.drop (off+new.length)).toArray) ⟨rfl,rfl,rfl⟩ (by simp) hoth hcs
  (λ_=>⟨_,ty,hsr,k2,o2⟩)
 exact ⟨_,by simpa using hrun,e',r',jL r hid rfl hb hr hoth⟩
def tg (P:Program)(ro:Nat)(T:VT)(t tx:TypeId)(d x:TV):Option (TV × VT):=match P.underlying t,d with
 |some (.slice e),.sl id off m _=>match P.info? e,T.objs[id]? with
  |some i,some (.cells cs)=>match cd T i.size x with
   |some es=>bif ble es.length m&&ble (off+es.flatten.length) cs.length&&ble ro id&&gk (P.underlying tx) then
     some (.val (.int .i64 es.length),{T with objs:=T.objs.set id (.cells (ci cs off es.flatten))}) else none
   |none=>none
  |_,_=>none
 |_,_=>none
theorem IZ (r:RW g T w){ro:Nat}{t tx ty:TypeId}{d x y:TV}{ud ux:Value}{T':VT}(h:tg P ro T t tx d x=some (y,T'))(hd:VR g w d ud)(hx:VR g w x ux):
  ∃u g' w',(copy_ #[t,tx] ty #[ud,ux]).run P w=.ok u w'∧VR g' w' y u∧Evo g w g' w'∧RW g' T' w'∧Fix ro g T w T' w':=by
 unfold tg at h
 split at h
 ·rename_i e id off m cap ht
  split at h
  ·rename_i i cs hi hid
   split at h
   ·rename_i es hes
    cases hb0:(ble es.length m&&ble (off+es.flatten.length) cs.length&&ble ro id&&gk (P.underlying tx)) with
    |false=>rw [hb0] at h;cases h
    |true=>
     rw [hb0] at h
     simp only [and_eq_true] at hb0
     obtain ⟨⟨⟨b2,b3⟩,b4⟩,b5⟩:=hb0
     injection h with h;injection h with e1 e2;subst e1 e2
     obtain ⟨news,sr,k2,z2⟩:=oJ (P:=P) r hes hx (qK b5)
     obtain ⟨b,f1,rfl⟩:=hd.sl_inv
     obtain ⟨w',k1,k3,k4,k5⟩:=LB (P:=P) r hid f1 k2 sr.one (le_of_ble_eq_true b3) (le_of_ble_eq_true b4)
     have hmin:Nat.min es.length m=es.length:=min_eq_left (le_of_ble_eq_true b2)
     refine ⟨_,g,w',?_,.val _,k3,k4,k5⟩
     simp [copy_,run_underlying ht,sizeOf,typeInfo,hi,sr.len,hmin,sr.cells,k1,goInt]
   ·cases h
  ·cases h
 ·cases h
end
section
variable {P:Program}{g:Gh}{T:VT}{w:World}
theorem qy {isS:Bool}{len cap l h m:Nat}{hi mx:TV}{lo':Option TV}{ul:Option Value}{uh um:Value}(h1:fq lo'=some l)(h2:fp hi=some h)(h3:fp mx=some m)(hl:BR g w lo' ul)(hh:VR g w hi uh)(hm:VR g w mx um)
  (hle:l≤h) (hc:h≤m) (hmc:m≤cap) (w':World):(Instr.sliceBounds isS len cap ul (some uh) (some um)).run P w'=.ok (l,h,m) w':=by
 obtain ⟨km,hkm⟩:=rI h3 hm
 obtain ⟨kh,hkh⟩:=rI h2 hh
 have em:=pH (P:=P) (c:=if isS then BoundsCode.slice3Acap else BoundsCode.slice3Alen) hmc hkm w'
 have eh:=pH (P:=P) (c:=BoundsCode.slice3B) hc hkh w'
 have e1:=Fj (P:=P) (y:=h) (c:=.slice3C) h1 hl hle w'
 cases ul<;>simp_all [Instr.sliceBounds]
def iU (P:Program)(t:TypeId)(x:TV)(lo hi mx:Option TV):Option TV:=match hi,mx,P.underlying t with
 |some hv,some mv,some (.slice e)=>match P.info? e,fq lo,fp hv,fp mv with
  |some inf,some l,some h,some m=>match x with
   | .row size id off n=>bif beq inf.size size&&ble l h&&ble h m&&ble m n then (bif beq l m then some (.sl id (off*size) 0 0) else some (.sl id ((off+l)*size) (h-l) (m-l))) else none
   | .sl id off _ cap=>bif ble l h&&ble h m&&ble m cap&&ble cap 140737488355328 then (bif beq l m then some (.sl id off 0 0) else some (.sl id (off+l*inf.size) (h-l) (m-l))) else none
   | .vec size es _=>bif beq inf.size size&&ble l h&&ble h m&&ble m es.length then some (.vec size ((es.take h).drop l) .none) else none
   |_=>none
  |_,_,_,_=>none
 |_,_,_=>none
theorem GZ {t:TypeId}{x y:TV}{lo hi mx:Option TV}{u:Value}{ul uh um:Option Value}(h:iU P t x lo hi mx=some y)(hx:VR g w x u)(hl:BR g w lo ul)(hh:BR g w hi uh)(hm:BR g w mx um):
  Looks0 P g w (sliceAt t u ul uh um) y:=by
 unfold iU at h
 split at h
 ·rename_i hv mv e hu
  cases uh with
  |none=>exact hh.elim
  |some uh=>
  cases um with
  |none=>exact hm.elim
  |some um=>
  split at h
  ·rename_i inf l hn m hinf h1 h2 h3
   have hrun:∀{a n c},u=.slice (some a) n c→l≤hn→hn≤m→m≤c→a.spot=none→∀w':World,(sliceAt t u ul (some uh) (some um)).run P w'=.ok (.slice (if m=l then some a else some ⟨a.block,a.off+l*inf.size,none⟩) (hn-l) (m-l)) w':=by
    intro a n c hu2 hle hc hmc hsp w'
    subst hu2
    obtain ⟨ab,ao,asp⟩:=a
    simp only at hsp;subst hsp
    have:=qy (P:=P) (isS:=true) (len:=n) (cap:=c) h1 h2 h3 hl hh hm hle hc hmc w'
    simp only [sliceAt,Instr.slice,run_bind,run_underlying hu,andThen_ok,this,bO hinf,run_pure,map_some,Addr.add_none]
   split at h
   ·rename_i size id off n
    cases hb:(beq inf.size size&&ble l hn&&ble hn m&&ble m n) with
    |false=>rw [hb] at h;cases h
    |true=>
     rw [hb] at h
     simp only [and_eq_true] at hb
     obtain ⟨⟨⟨b1,b2⟩,b3⟩,b4⟩:=hb
     have b1:=eq_of_beq_eq_true b1
     have b2:=le_of_ble_eq_true b2
     have b3:=le_of_ble_eq_true b3
     have b4:=le_of_ble_eq_true b4
     subst b1
     obtain ⟨b,c,k1,k2,k3,k4,k5,rfl⟩:=hx.row_inv
     simp only [cond_true] at h
     cases hq:beq l m with
     |true=>
      rw [hq] at h
      have hq:=eq_of_beq_eq_true hq
      injection h with h;subst h
      refine .of_ok ?_ (hrun rfl b2 b3 (by omega) rfl)
      have e1:hn-l=0:=by omega
      have e2:m-l=0:=by omega
      rw [if_pos hq.symm,e1,e2]
      exact .sl k1
     |false=>
      rw [hq] at h
      have hq:=ne_of_beq_eq_false hq
      injection h with h;subst h
      refine .of_ok ?_ (hrun rfl b2 b3 (by omega) rfl)
      rw [if_neg (λh=>hq h.symm)]
      simp only
      rw [←add_mul]
      exact .sl k1
   ·rename_i id off n' cap
    cases hb:(ble l hn&&ble hn m&&ble m cap&&ble cap 140737488355328) with
    |false=>rw [hb] at h;cases h
    |true=>
     rw [hb] at h
     simp only [and_eq_true] at hb
     obtain ⟨⟨⟨b2,b3⟩,b4⟩,b5⟩:=hb
     have b2:=le_of_ble_eq_true b2
     have b3:=le_of_ble_eq_true b3
     have b4:=le_of_ble_eq_true b4
     have b5:=le_of_ble_eq_true b5
     obtain ⟨b,k1,rfl⟩:=hx.sl_inv
     simp only [cond_true] at h
     cases hq:beq l m with
     |true=>
      rw [hq] at h
      have hq:=eq_of_beq_eq_true hq
      injection h with h;subst h
      refine .of_ok ?_ (hrun rfl b2 b3 b4 rfl)
      have e1:hn-l=0:=by omega
      have e2:m-l=0:=by omega
      rw [if_pos hq.symm,e1,e2]
      exact .sl k1
     |false=>
      rw [hq] at h
      have hq:=ne_of_beq_eq_false hq
      injection h with h;subst h
      refine .of_ok ?_ (hrun rfl b2 b3 b4 rfl)
      rw [if_neg (λh=>hq h.symm)]
      exact .sl k1
   ·rename_i size es tok
    cases hb:(beq inf.size size&&ble l hn&&ble hn m&&ble m es.length) with
    |false=>rw [hb] at h;cases h
    |true=>
     rw [hb] at h
     simp only [and_eq_true] at hb
     obtain ⟨⟨⟨b1,b2⟩,b3⟩,b4⟩:=hb
     have b1:=eq_of_beq_eq_true b1
     have b2:=le_of_ble_eq_true b2
     have b3:=le_of_ble_eq_true b3
     have b4:=le_of_ble_eq_true b4
     subst b1
     injection h with h;subst h
     obtain ⟨a,n,c,hu2,hn2,hnc,_,hd⟩:=hx.vec_drop (l:=l) (by omega)
     have hd:=hd hn b2 (by omega)
     rcases hx.vec_inv with ⟨h0,hes,_⟩ | ⟨b,o,c',us,h0,h5,h6,_⟩ | ⟨ad,h0,hes,_⟩
     rotate_left 2
     ·subst hes
      simp only [List.length_nil,Nat.le_zero_eq] at b4
      have e1:m=0:=b4
      have e2:hn=0:=by omega
      have e3:l=0:=by omega
      subst e1 e2 e3
      refine .of_ok (v:=.slice (some ad) 0 0) (by simpa using VR.odd (g:=g) (w:=w) (size:=inf.size) (tok:=.none) ad trivial) λw'=> ?_
      have:=qy (P:=P) (isS:=true) (len:=0) (cap:=0) h1 h2 h3 hl hh hm b2 b3 (le_refl _) w'
      rw [h0]
      simp only [sliceAt,Instr.slice,run_bind,run_underlying hu,andThen_ok,this,bO hinf,run_pure,map_some,ite_self]
      simp
     ·subst hes
      simp only [List.length_nil,Nat.le_zero_eq] at b4
      have e1:m=0:=b4
      have e2:hn=0:=by omega
      have e3:l=0:=by omega
      subst e1 e2 e3
      refine .of_ok (v:=.slice none 0 0) (by simpa using VR.nil (g:=g) (w:=w) (size:=inf.size) (tok:=.none) trivial) λw'=> ?_
      have:=qy (P:=P) (isS:=true) (len:=0) (cap:=0) h1 h2 h3 hl hh hm b2 b3 (le_refl _) w'
      rw [h0]
      simp only [sliceAt,Instr.slice,run_bind,run_underlying hu,andThen_ok,this,bO hinf,run_pure,map_none,ite_self,sub_zero]
     ·rw [hu2] at h0
      injection h0 with h01 h02 h03
      subst h01 h03
      refine .of_ok ?_ (hrun hu2 b2 b3 (by omega) rfl)
      by_cases hml:m=l
      ·have:hn=l:=by omega
       subst this
       rw [if_pos hml,hml,sub_self]
       have e1:(es.take hn).drop hn= []:=List.drop_eq_nil_of_le (by simp;omega)
       rw [e1]
       exact .mk_vec (us:= []) (by simp) (by omega) (by omega) (by simp) trivial (by simpa using VRs.nil g w) (by simp) (by simp) (by simp)
      ·rw [if_neg hml]
       rw [if_neg (by omega)] at hd
       simp only [map_some,Addr.add_none] at hd
       generalize hes2:(es.take hn).drop l=es2 at hd ⊢
       rcases hd.vec_inv with ⟨h7,_⟩ | ⟨b',o',c2,us2,h7,h8,h9,h10,h11,h12,h13,h14,h15⟩ | ⟨_,h7,_⟩
       rotate_left 2
       ·injection h7 with h71 h72 h73
        omega
       ·cases h7
       ·injection h7 with h71 h72 h73
        injection h71 with h71;injection h71 with h71 h74
        subst h71 h74
        rw [h72]
        exact .mk_vec (us:=us2) rfl (by omega) (by omega) h10 trivial h12 h13 h14 h15
   ·cases h
  ·cases h
 ·cases h
def lG (P:Program)(T:VT)(t tx:TypeId)(s x:TV):Option (TV × VT):=match P.underlying t,s with
 |some (.slice e),.sl _ _ n cap=>match P.info? e with
  |some i=>match i.zero,cd T i.size x,cd T i.size s with
   |some z,some es2,some es=>match es2 with
    |[]=>bif ble n cap then some (s,T) else none
    |_::_=>bif decide (z.cells.size=i.size)&&z.cells.toList.all oneCell' &&gk (P.underlying tx)&&beq n cap&&beq es.length n&&ble ((n+es2.length)*(i.bytes+1)) 140737488355328 then some (.row i.size T.objs.length 0 (n+es2.length),T.newRow (es.flatten++es2.flatten)) else none
   |_,_,_=>none
  |none=>none
 |_,_=>none
theorem LC (r:RW g T w){ro:Nat}{t tx ty:TypeId}{s x y:TV}{us ux:Value}{T':VT}(h:lG P T t tx s x=some (y,T'))(hs:VR g w s us)(hx:VR g w x ux)(hk0:gk (P.underlying tx)=true):
  ∃u g' w',(append_ #[t,tx] ty #[us,ux]).run P w=.ok u w'∧VR g' w' y u∧Evo g w g' w'∧RW g' T' w'∧Fix ro g T w T' w':=by
 unfold lG at h
 split at h
 ·rename_i e id off n cap ht
  split at h
  ·rename_i i hi
   split at h
   ·rename_i z es2 es hz hr2 hr1
    obtain ⟨news,sr,k2,z2⟩:=oJ (P:=P) r hr2 hx (qK hk0)
    obtain ⟨olds,so,k1,z1⟩:=oJ (P:=P) (tx:=t) r hr1 hs (.inl ⟨e,ht⟩)
    have hfl1:=cL z1
    obtain ⟨b,hb0,rfl⟩:=hs.sl_inv
    split at h
    ·cases hb:ble n cap with
     |false=>rw [hb] at h;cases h
     |true=>
      rw [hb] at h
      injection h with h;injection h with h1 h2;subst h1 h2
      have sr0:Src P i.size tx ux 0 news w:=sr
      exact ⟨_,g,w,ke (ty:=ty) ht hi sr0 (a:=some ⟨b,off,none⟩) (le_of_ble_eq_true hb),hs,Evo.refl _ _,r,Fix.refl _ _ _ _⟩
    ·rename_i q0 qs
     cases hb:(decide (z.cells.size=i.size)&&z.cells.toList.all oneCell' &&gk (P.underlying tx)&&beq n cap&&beq es.length n&&ble ((n+(q0::qs).length)*(i.bytes+1)) 140737488355328) with
     |false=>rw [hb] at h;cases h
     |true=>
      rw [hb] at h
      simp only [and_eq_true,decide_eq_true_eq] at hb
      obtain ⟨⟨⟨⟨⟨hz1,hz2⟩,hk⟩,hnc⟩,hen⟩,hbig⟩:=hb
      have hnc:=eq_of_beq_eq_true hnc
      have hen:=eq_of_beq_eq_true hen
      have hbig:=le_of_ble_eq_true hbig
      injection h with h;injection h with h1 h2;subst h1 h2
      have hz3:∀u∈z.cells.toList,u.oneCell'=true:=all_eq_true.1 hz2
      subst hnc hen
      obtain ⟨_,_,_,so3,so4,so5⟩:=so
      obtain ⟨u,g',w',e1,e2,e3,e4,e5⟩:=mt (ty:=ty) r ht hi hz hz1 (cs:=es.flatten) (a:=some ⟨b,off,none⟩) (n:=es.length) (c:=es.length) (us:=olds) hfl1 k1 so5 hz3 so3 sr k2 (by simp) hbig
      exact ⟨u,g',w',e1,e2,e3,e4,Fix.of_same (Same.of_gr r e5) (gG _ _)⟩
   ·cases h
  ·cases h
 ·cases h
@[irreducible] def za (P:Program)(x:TV)(t:TypeId)(ok:Bool):Option TV:=(λ_=>none) (P,x,t,ok)
theorem G0 {t tx:TypeId}{x y:TV}{u:Value}{ok:Bool}(h:za P x t ok=some y)(hx:VR g w x u):Looks0 P g w (Instr.typeAssert u tx t ok) y:=by
 have _u:=hx
 unfold za at h
 cases h
end
section
variable {P:Program}{g:Gh}{T:VT}{w:World}
@[irreducible] def zb (P:Program)(ro:Nat)(T:VT)(t:TypeId)(m k:TV):Option (TV × VT):=(λ_=>none) (P,ro,T,t,m,k)
theorem G1 (r:RW g T w){ro:Nat}{t ty tk:TypeId}{m k y:TV}{um uk:Value}{T':VT}(h:zb P ro T t m k=some (y,T'))(hm:VR g w m um)(hk:VR g w k uk):
  ∃u g' w',(Builtin.delete_ #[t,tk] ty #[um,uk]).run P w=.ok u w'∧VR g' w' y u∧Evo g w g' w'∧RW g' T' w'∧Fix ro g T w T' w':=by
 have _u:=r
 have _u:=hm
 have _u:=hk
 unfold zb at h
 cases h
end
section
variable {P:Program}{g:Gh}{T:VT}{w:World}
@[irreducible] def Cs (P:Program)(ro:Nat)(T:VT)(t:TypeId)(d:TV):Option (TV × VT):=(λ_=>none) (P,ro,T,t,d)
theorem I0 (r:RW g T w){ro:Nat}{t ty:TypeId}{d y:TV}{ud:Value}{T':VT}(h:Cs P ro T t d=some (y,T'))(hd:VR g w d ud):
  ∃u g' w',(Builtin.clear_ #[t] ty #[ud]).run P w=.ok u w'∧VR g' w' y u∧Evo g w g' w'∧RW g' T' w'∧Fix ro g T w T' w':=by
 have _u:=r
 have _u:=hd
 unfold Cs at h
 cases h
end
section
variable {P:Program}{g:Gh}{T:VT}{w:World}
@[irreducible] def zc (P:Program)(ro:Nat)(T:VT)(t:TypeId)(m k:TV):Option (TV × VT):=(λ_=>none) (P,ro,T,t,m,k)
theorem G2 (r:RW g T w){ro:Nat}{t:TypeId}{m k y:TV}{um uk:Value}{T':VT}(h:zc P ro T t m k=some (y,T'))(hm:VR g w m um)(hk:VR g w k uk):
  ∃u g' w',(Instr.mapEntry t um uk).run P w=.ok u w'∧VR g' w' y u∧Evo g w g' w'∧RW g' T' w'∧Fix ro g T w T' w':=by
 have _u:=r
 have _u:=hm
 have _u:=hk
 unfold zc at h
 cases h
@[irreducible] def zd (ro:Nat)(T:VT)(m s v:TV):Option (TV × VT):=(λ_=>none) (ro,T,m,s,v)
theorem G3 (r:RW g T w){ro:Nat}{t:TypeId}{m s v y:TV}{um us uv:Value}{T':VT}(h:zd ro T m s v=some (y,T'))(hm:VR g w m um)(hs:VR g w s us)(hv:VR g w v uv):
  ∃g' w',(Instr.entryStore t um us uv).run P w=.ok () w'∧VR g' w' y undef∧Evo g w g' w'∧RW g' T' w'∧Fix ro g T w T' w':=by
 have _u:=r
 have _u:=hm
 have _u:=hs
 have _u:=hv
 unfold zd at h
 cases h
end
section
variable {P:Program}
abbrev aV:=Nat→Option (List TV)
def GOk (G:aV)(g:Gh)(w:World):Prop:=∀n cs,G n=some cs→VR g w (.elt cs) (.pointer (some ⟨n,0,none⟩))
theorem GOk.mono {G:aV}{g g':Gh}{w w':World}(h:GOk G g w)(e:Evo g w g' w'):GOk G g' w':=λn cs hn=>(h n cs hn).mono e
def bt (G:aV)(σ:List TV):Operand→TV
 | .tmp t=>σ.getD t .dead
 | .const v=>.val v
 | .global n=>match G n with
  |some cs=>.elt cs
  |none=>.val (.pointer (some ⟨n,0,none⟩))
 | .func f=>.fn (.func f) [] []
theorem fC {G:aV}{g:Gh}{w:World}{σ:List TV}{a:Act}(hG:GOk G g w)(h:VRs g w σ a.tmps.toList)(x:Operand):VR g w (bt G σ x) (a.eval x):=by
 cases x with
 |global n=>
  simp only [bt]
  split
  ·rename_i cs hn;exact hG n cs hn
  ·exact .val _
 |tmp t=>exact v7 h (.tmp t)
 |const v=>exact v7 h (.const v)
 |func f=>exact v7 h (.func f)
def LD (P:Program)(op:BinOp)(t:TypeId)(x y:TV):Option TV:=match P.underlying t,y with
 |some (.slice _),.val (.slice none _ _)=>match x with
  | .row .. =>eQ op false
  | .sl .. =>eQ op false
  | .vec _ (_::_) _=>eQ op false
  | .vec _ [] .full=>eQ op false
  | .vec _ [] .live=>eQ op false
  | .vec _ [] (.past _ _)=>eQ op false
  |_=>none
 |some (.pointer e),.ptr j o2=>(match x with
  | .ptr i o1=>bif beq i j then (match P.info? e with
   |some inf=>bif beq inf.size 0 then none else eQ op (beq o1 o2)
   |none=>none) else none
  |_=>none)
 |_,_=>none
theorem Pt {g:Gh}{w:World}{op:BinOp}{t:TypeId}{xo yo:Operand}{x y r:TV}{u v:Value}(h:LD P op t x y=some r)(hx:VR g w x u)(hy:VR g w y v):
  Looks0 P g w (do eqGuard op t xo yo u v;binOp op t u v) r:=by
 unfold LD at h
 split at h
 ·rename_i e n c hu
  rw [hy.val_inv]
  have go:∀a m k,u=.slice (some a) m k→eQ op false=some r→Looks0 P g w (do eqGuard op t xo yo u (.slice none n c);binOp op t u (.slice none n c)) r:=by
   intro a m k h1 h2
   subst h1
   refine jJ h2 (λop=>by cases op<;>rfl) (λw'=>fN (λd w=> ?_) w') rfl rfl
   simp [equalIn,run_underlying hu]
  split at h
  ·obtain ⟨b,c',_,_,_,_,_,h1⟩:=hx.row_inv
   exact go _ _ _ h1 h
  ·obtain ⟨b,_,h1⟩:=hx.sl_inv
   exact go _ _ _ h1 h
  ·rcases hx.vec_inv with ⟨_,h2,_⟩ | ⟨b,o,c',us,h1,_⟩ | ⟨_,_,h2,_⟩
   ·cases h2
   ·exact go _ _ _ h1 h
   ·cases h2
  ·rcases hx.vec_inv with ⟨_,_,h2⟩ | ⟨b,o,c',us,h1,_⟩ | ⟨a,h1,_⟩
   ·exact h2.elim
   ·exact go _ _ _ h1 h
   ·exact go _ _ _ h1 h
  ·rcases hx.vec_inv with ⟨_,_,h2⟩ | ⟨b,o,c',us,h1,_⟩ | ⟨a,h1,_⟩
   ·exact h2.elim
   ·exact go _ _ _ h1 h
   ·exact go _ _ _ h1 h
  ·rcases hx.vec_inv with ⟨_,_,h2⟩ | ⟨b,o,c',us,h1,_⟩ | ⟨a,h1,_⟩
   ·exact h2.elim
   ·exact go _ _ _ h1 h
   ·exact go _ _ _ h1 h
  ·cases h
 ·rename_i e j o2 hu
  split at h
  ·rename_i i o1
   cases hb:beq i j with
   |false=>rw [hb] at h;cases h
   |true=>
    rw [hb] at h
    have hij:=eq_of_beq_eq_true hb
    subst hij
    simp only [cond_true] at h
    split at h
    ·rename_i inf hinf
     cases hz:beq inf.size 0 with
     |true=>rw [hz] at h;cases h
     |false=>
      rw [hz] at h
      simp only [cond_false] at h
      obtain ⟨b,hb1,rfl⟩:=hx.ptr_inv
      obtain ⟨b',hb2,rfl⟩:=hy.ptr_inv
      rw [hb1] at hb2;injection hb2 with hb2;subst hb2
      have hs:inf.size≠0:=λe=>by rw [e] at hz;cases hz
      have hq:((⟨b,o1,none⟩:Addr)==⟨b,o2,none⟩)=beq o1 o2:=by
       cases ho:beq o1 o2 with
       |true=>rw [eq_of_beq_eq_true ho];simp
       |false=>
        have:o1≠o2:=λe=>by rw [e,beq_refl] at ho;cases ho
        simp [this]
      refine jJ h (λop=>by cases op<;>rfl) (λw'=>fN (λd w=> ?_) w') rfl rfl
      simp [equalIn,run_underlying hu,bO hinf,hs,sameAddr,hq]
    ·cases h
  ·cases h
 ·cases h
def Bx (P:Program)(op:BinOp)(t:TypeId)(x y:TV):Bool:=match P.underlying t,op,x,y with
 |some (.slice _),.eql,.vec _ [] .none,.val (.slice none _ _)=>true
 |some (.slice _),.neq,.vec _ [] .none,.val (.slice none _ _)=>true
 |some (.slice _),.eql,.vec _ [] (.tail ..),.val (.slice none _ _)=>true
 |some (.slice _),.neq,.vec _ [] (.tail ..),.val (.slice none _ _)=>true
 |_,_,_,_=>false
theorem LE {g:Gh}{w:World}{op:BinOp}{t:TypeId}{xo yo:Operand}{x y:TV}{u v:Value}(h:Bx P op t x y=true)(hx:VR g w x u)(hy:VR g w y v):
  ∃b,∀w',(do eqGuard op t xo yo u v;binOp op t u v:Sem Value).run P w'=.ok (.bool b) w':=by
 have go:∀{e size tok n c},P.underlying t=some (.slice e)→x=.vec size [] tok→y=.val (.slice none n c)→(op=.eql∨op=.neq)→∃b,∀w',(do eqGuard op t xo yo u v;binOp op t u v:Sem Value).run P w'=.ok (.bool b) w':=by
  intro e size tok n c hu hx1 hy1 hop
  subst hx1 hy1
  rw [hy.val_inv]
  have fin:∀{a:Option Addr} {m k:Nat} {b:Bool},(∀w',(Op.equal t (.slice a m k) (.slice none n c)).run P w'=.ok b w')→∃b,∀w',(do eqGuard op t xo yo (.slice a m k) (.slice none n c);binOp op t (.slice a m k) (.slice none n c):Sem Value).run P w'=.ok (.bool b) w':=by
   intro a m k b hb
   rcases hop with rfl | rfl
   ·obtain ⟨v',hv',hr⟩:=jJ (P:=P) (g:=g) (w:=w) (op:=.eql) (t:=t) (xo:=xo) (yo:=yo) (x:=.val (.bool b)) (b:=b) rfl (λop=>by cases op<;>rfl) hb rfl rfl
    exact ⟨b,by rw [hv'.val_inv] at hr;exact hr⟩
   ·obtain ⟨v',hv',hr⟩:=jJ (P:=P) (g:=g) (w:=w) (op:=.neq) (t:=t) (xo:=xo) (yo:=yo) (x:=.val (.bool (!b))) (b:=b) rfl (λop=>by cases op<;>rfl) hb rfl rfl
    exact ⟨!b,by rw [hv'.val_inv] at hr;exact hr⟩
  rcases hx.vec_inv with ⟨h1,_⟩ | ⟨b,o,c',us,h1,_⟩ | ⟨a,h1,_⟩
  ·rw [h1]
   exact fin (b:=true) λw'=>fN (λd w=>by simp [equalIn,run_underlying hu]) w'
  ·rw [h1]
   exact fin (b:=false) λw'=>fN (λd w=>by simp [equalIn,run_underlying hu]) w'
  ·rw [h1]
   exact fin (b:=false) λw'=>fN (λd w=>by simp [equalIn,run_underlying hu]) w'
 unfold Bx at h
 split at h
 ·rename_i hu;exact go hu rfl rfl (.inl rfl)
 ·rename_i hu;exact go hu rfl rfl (.inr rfl)
 ·rename_i hu;exact go hu rfl rfl (.inl rfl)
 ·rename_i hu;exact go hu rfl rfl (.inr rfl)
 ·cases h
def bu (P:Program)(op:Op)(ev:Operand→TV):Option TV:=match op with
  | .binOp op t x y _=>match Sa P op t (ev x) (ev y) with
    |some r=>some r
    |none=>match LD P op t (ev x) (ev y) with
      |some r=>some r
      |none=>Cd P op t x y (ev x) (ev y)
  | .sliceToArrayPointer t x=>Cn P t (ev x)
  | .index t x i=>match y8 P t (ev x) (ev i) with
    |some r=>some r
    |none=>eJ P (.index t x i) ev
  | .indexAddr t x i=>match oq P t (ev x) (ev i) with
    |some r=>some r
    |none=>gv P t (ev x) (ev i)
  | .typeAssert x _ t ok=>za P (ev x) t ok
  | .slice t x lo hi mx=>match iU P t (ev x) (lo.map ev) (hi.map ev) (mx.map ev) with
   |some r=>some r
   |none=>match gp P t (ev x) (lo.map ev) (hi.map ev) (mx.map ev) with
    |some r=>some r
    |none=>match ot P t (ev x) (lo.map ev) (hi.map ev) (mx.map ev) with
      |some r=>some r
      |none=>nh P t (ev x) (lo.map ev) (hi.map ev) (mx.map ev)
  | .call c=>match c.callee,c.argTypes.toList,c.args.toList with
    | .builtin .len,[t],[x]=>(match GT P t (ev x) with
      |some r=>some r
      |none=>eJ P (.call c) ev)
    | .builtin .cap,[t],[x]=>GU P t (ev x)
    |_,_,_=>none
  | .nilCheck x=>match ev x with
    | .ptr a b=>some (.ptr a b)
    | .elt cs=>some (.elt cs)
    |_=>none
  |op=>eJ P op ev
theorem nk {g:Gh}{w:World}{o:Oper}{ev:Operand→TV}{ρ:Operand→Value}{y:TV}(h:bu P o.op ev=some y)(hev:∀x,VR g w (ev x) (ρ x)):
  ∃v,VR g w y v∧∀w',(execOp ρ o).run P w'=.ok (.value v) w':=by
 have old:eJ P o.op ev=some y→∃v,VR g w y v∧∀w',(execOp ρ o).run P w'=.ok (.value v) w':=λh=>Lq (P:=P) h hev
 obtain ⟨dst,op,ty,pos,af,gd⟩:=o
 simp only at h old
 cases op<;>simp only [bu] at h<;>try (exact old h)
 case binOp op t x y' ty'=>
  split at h
  ·rename_i r hr
   injection h with h;subst h
   exact (Sb (P:=P) (xo:=x) (yo:=y') hr (hev x) (hev y')).next rfl
  ·split at h
   ·rename_i r hr
    injection h with h;subst h
    exact (Pt (P:=P) (xo:=x) (yo:=y') hr (hev x) (hev y')).next rfl
   ·exact old (by simpa only [eJ] using h)
 case nilCheck x=>
  clear old
  split at h
  ·rename_i a b hc
   injection h with h;subst h
   have h1:=hev x
   rw [hc] at h1
   obtain ⟨c,hb,h2⟩:=h1.ptr_inv
   exact ⟨_,.ptr hb,λw'=>by simp [execOp,h2]⟩
  ·rename_i cs hc
   injection h with h;subst h
   have h1:=hev x
   rw [hc] at h1
   have h3:=h1
   obtain ⟨b,o,us,h2,_⟩:=h1.elt_inv
   rw [h2] at h3
   exact ⟨_,h3,λw'=>by simp [execOp,h2]⟩
  ·cases h
 case sliceToArrayPointer t x=>exact (IR (P:=P) h (hev x)).next rfl
 case index t x i=>
  split at h
  ·rename_i r hr
   injection h with h;subst h
   exact (GP (P:=P) hr (hev x) (hev i)).next rfl
  ·exact old h
 case indexAddr t x i=>
  split at h
  ·rename_i r hr
   injection h with h;subst h
   exact (GQ (P:=P) hr (hev x) (hev i)).next rfl
  ·exact old (by simpa only [eJ] using h)
 case typeAssert x tx t ok=>exact (G0 (P:=P) (tx:=tx) h (hev x)).next rfl
 case slice t x lo hi mx=>
  split at h
  ·rename_i r hr
   injection h with h;subst h
   exact (GZ (P:=P) hr (hev x) (BR.map hev lo) (BR.map hev hi) (BR.map hev mx)).next rfl
  ·split at h
   ·rename_i r hr
    injection h with h;subst h
    exact (GR (P:=P) hr (hev x) (BR.map hev lo) (BR.map hev hi) (BR.map hev mx)).next rfl
   ·split at h
    ·rename_i r hr
     injection h with h;subst h
     exact (GS (P:=P) hr (hev x) (BR.map hev lo) (BR.map hev hi) (BR.map hev mx)).next rfl
    ·exact old (by simpa only [eJ] using h)
 case call c=>
  obtain ⟨cal,args,ats⟩:=c
  split at h
  ·rename_i t x hc h1 h2
   simp only at hc h1 h2
   subst hc
   have e1:ats= #[t]:=by rw [←toArray_toList (xs:=ats),h1]
   have e2:args= #[x]:=by rw [←toArray_toList (xs:=args),h2]
   subst e1 e2
   split at h
   ·rename_i r hr
    injection h with h;subst h
    exact (Lv (P:=P) (ty:=ty) hr (hev x)).next (by simp [execOp,resolve,invoke,builtin])
   ·exact old h
  ·rename_i t x hc h1 h2
   simp only at hc h1 h2
   subst hc
   have e1:ats= #[t]:=by rw [←toArray_toList (xs:=ats),h1]
   have e2:args= #[x]:=by rw [←toArray_toList (xs:=args),h2]
   subst e1 e2
   exact (Lw (P:=P) (ty:=ty) h (hev x)).next (by simp [execOp,resolve,invoke,builtin])
  ·cases h
def bs (P:Program)(T:VT)(op:Op)(ev:Operand→TV):Option TV:=match op with
 | .lookup t m k ok=>hJ P T t (ev m) (ev k) ok
 | .convert s d x=>match g9 P T s d (ev x) with
  |some r=>some r
  |none=>dV P T (.convert s d x) ev
 |op=>dV P T op ev
theorem th {g:Gh}{T:VT}{w:World}(r:RW g T w){o:Oper}{ev:Operand→TV}{ρ:Operand→Value}{y:TV}(h:bs P T o.op ev=some y)(hev:∀x,VR g w (ev x) (ρ x)):
  ∃v,VR g w y v∧∀w',Same g T w w'→(execOp ρ o).run P w'=.ok (.value v) w':=by
 have old:dV P T o.op ev=some y→∃v,VR g w y v∧∀w',Same g T w w'→(execOp ρ o).run P w'=.ok (.value v) w':=λh=>Cf (P:=P) r h hev
 obtain ⟨dst,op,ty,pos,af,gd⟩:=o
 simp only at h old
 cases op<;>simp only [bs] at h<;>try (exact old h)
 case lookup t m k ok=>exact (xc (P:=P) r h (hev m) (hev k)).next rfl
 case convert s d x=>
  split at h
  ·rename_i y' hr
   injection h with h;subst h
   exact (IT (P:=P) r hr (hev x)).next rfl
  ·exact old h
def Ct (P:Program)(T0:VT)(op:Op)(ev:Operand→TV):Option TV:=match op with
 | .lookup t m k ok=>match ev m with
  | .map id=>hJ P T0 t (.map id) (ev k) ok
  |_=>none
 |op=>Bv P T0 op ev
theorem Cu {T:VT}{t:TypeId}{id:Nat}{k y:TV}{ok:Bool}(h:hJ P T t (.map id) k ok=some y):(∃o,T.objs[id]?=some o∧o.live=true)∧∃kv,ea k=some kv:=by
 unfold hJ at h
 split at h
 ·rename_i hkv
  refine ⟨?_,_,hkv⟩
  split at h
  ·split at h
   ·rename_i sh _ _ _ _ _ _
    generalize KS.fits _ _=b at h
    cases b with
    |false=>cases h
    |true=>
     simp only [cond_true] at h
     split at h
     ·exact ⟨_,by assumption,rfl⟩
     ·cases h
   ·cases h
  ·cases h
 ·cases h
theorem I1 {g g':Gh}{w w':World}{x:TV}{v u:Value}(h:ea x=some v)(hx:VR g w x u):VR g' w' x u:=by
 have e:=ef h hx
 subst e
 unfold ea at h
 split at h
 ·injection h with h;subst h;exact .val _
 ·simp only [map_eq_some_iff] at h
  obtain ⟨vs,h,e⟩:=h
  subst e
  have key:∀{cs:List TV} {vs:List Value},lB cs=some vs→cs=vs.map .val:=by
   intro cs
   induction cs with
   |nil=>intro vs h;injection h with h;subst h;rfl
   |cons c cs ih=>
    intro vs h
    cases c<;>simp [lB] at h
    obtain ⟨a,h,rfl⟩:=h
    rw [ih h];rfl
  rw [key h]
  exact .mk_agg (VRs.vals g' w' vs)
 ·cases h
theorem I2 {g0 g:Gh}{T0:VT}{w0 w:World}(r0:RW g0 T0 w0)(e:Evo g0 w0 g w){o:Oper}{ev:Operand→TV}{ρ:Operand→Value}{y:TV}(h:Ct P T0 o.op ev=some y)(hev:∀x,VR g w (ev x) (ρ x)):
  ∃v,VR g w y v∧∀w',Same g0 T0 w0 w'→(execOp ρ o).run P w'=.ok (.value v) w':=by
 have old:Bv P T0 o.op ev=some y→∃v,VR g w y v∧∀w',Same g0 T0 w0 w'→(execOp ρ o).run P w'=.ok (.value v) w':=λh=>Lr (P:=P) r0 e h hev
 obtain ⟨dst,op,ty,pos,af,gd⟩:=o
 simp only at h old
 cases op<;>simp only [Ct] at h<;>try (exact old h)
 case lookup t m k ok=>
  split at h
  ·rename_i id hm
   have h1:=hev m
   rw [hm] at h1
   obtain ⟨b,hb,hu⟩:=h1.map_inv
   obtain ⟨⟨oo,ho,hol⟩,kv,hkv⟩:=Cu h
   obtain ⟨b0,hb0,_⟩:=r0.obj id _ ho hol
   have:=e.obj id b0 hb0
   rw [hb] at this;injection this with this;subst this
   have h2:VR g0 w0 (.map id) (ρ m):=by rw [hu];exact .map hb0
   obtain ⟨v,h3,h4⟩:=xc (P:=P) r0 h h2 (I1 hkv (hev k))
   exact ⟨v,h3.mono e,λw' hs=>by simp [execOp,h4 w' hs]⟩
  ·cases h
theorem I3 {g:Gh}{T:VT}{w:World}(r:RW g T w){size id off:Nat}{cs:List TV}{u:Value}(hid:T.objs[id]?=some (.row cs))(hs:VR g w (.vec size [] (.past id off)) u):
  ∃g',Evo g w g' w∧RW g' {(T.kill id) with tails:=T.tails++ [(0,size,false)]} w∧VR g' w (.vec size [] (.tail T.tails.length 0)) u:=by
 obtain ⟨b0,hb0,⟨us0,t0,hh,_,_,_⟩,hfr,hst⟩:=r.obj id _ hid rfl
 have r1:=r.kill hid rfl hb0
 have fr1:=rM r hid rfl hb0
 have empty:∀g':Gh,(∃b lo,g'.tail T.tails.length=some ⟨b,0,0,size,0,0,lo,false,false⟩)→∀b o,TokOk g' w (.tail T.tails.length 0) size 0 b o 0:=λg' ⟨b',lo,h⟩ b o=>
  ⟨_,h,le_refl _,rfl,λ_ hlt=>absurd hlt (Nat.lt_irrefl 0),λ_ h=>by cases h⟩
 rcases hs.vec_inv with ⟨_,_,h⟩ | ⟨b,o,c,us,rfl,a1,a2,a3,a4,a5,a6,a7,a8⟩ | ⟨a,rfl,_,_⟩
 ·exact h.elim
 ·by_cases hc:0<c
  ·obtain ⟨d1,d2,d3,d4⟩:=a4 hc
   rw [hb0] at d1;injection d1 with d1;subst d1
   have hcs:cf w b0=us0.length:=by rw [cp hh];simp
   have hn:g.tail T.tails.length=none:=r.tout _ (le_refl _)
   let x:Tl:=⟨b0,o,o+c*size,size,0,t0,w.heap.size,false,false⟩
   have hhas:∀b,x.has b→b=b0:=λb h=>by
    rcases h with ⟨o',h⟩ | ⟨h,_⟩
    ·exact h.1.symm
    ·cases h
   have hgrow:∀y,g.tail T.tails.length=some y→y.e<x.e∧x.size=y.size∧x.lo=y.lo:=λy hy=>by rw [hn] at hy;cases hy
   have rT:=r1.setTail (T':={(T.kill id) with tails:=T.tails++ [(0,size,false)]}) (k:=T.tails.length) (x:=x) rfl (.inl ⟨rfl,rfl⟩)
    (λb' o' h=>by
     obtain ⟨h1,h2,h3⟩:=h
     have h1:b0=b':=h1
     subst h1
     have h3:o' <o+c*size:=h3
     rw [d4,hcs] at h3
     refine ⟨?_,?_,hst o',hfr⟩
     ·simp [cell?,hh,h3]
     ·simp [World.frozen?,hh])
    (λi oi b' h1 h2 h3 h4=>by
     have:=hhas b' h4
     subst this
     exact fr1.obj i oi h1 h2 h3)
    (λj y b' _ hy h4=>by
     have:=hhas b' h4
     subst this
     exact fr1.tl j y hy)
    hgrow (λ_=>le_refl _) (λh=>by cases h) (λh=>by rcases h with h | h<;>cases h) (le_refl _)
   refine ⟨_,Evo.setTail hgrow (λ_=>le_refl _),rT,?_⟩
   have ev:Evo g w (g.setTail T.tails.length x) w:=Evo.setTail hgrow (λ_=>le_refl _)
   exact .mk_vec (us:= []) rfl (Nat.zero_le _) a2 (by simp) ⟨x,by simp [Gh.setTail],le_refl _,rfl,λ_ _=>⟨rfl,by simp [x],rfl⟩,λ_ h=>by cases h⟩ (by simpa using VRs.nil _ w) (by simp) (by simp) (by simp)
  ·obtain rfl:c=0:=by omega
   obtain ⟨g',e1,r2,h3⟩:=r1.newTail size false
   exact ⟨g',e1,r2,.mk_vec (us:= []) rfl (le_refl _) a2 (by simp) (empty g' ⟨_,_,h3⟩ b o) (by simpa using VRs.nil _ w) (by simp) (by simp) (by simp)⟩
 ·obtain ⟨g',e1,r2,h3⟩:=r1.newTail size false
  exact ⟨g',e1,r2,.odd a (empty g' ⟨_,_,h3⟩ 0 0)⟩
def rQ (P:Program)(ro:Nat)(T:VT)(t tx:TypeId)(s x:TV):Option (TV × VT):=match s with
 | .vec size [] (.past id _)=>match T.objs[id]? with
  |some (.row _)=>bif ble ro id then iR P {(T.kill id) with tails:=T.tails++ [(0,size,false)]} t tx (.vec size [] (.tail T.tails.length 0)) x else none
  |_=>none
 |_=>none
theorem Cv {T T':VT}{t tx:TypeId}{s x y:TV}(h:iR P T t tx s x=some (y,T')):T'.objs.take T.objs.length=T.objs:=by
 unfold iR at h
 split at h
 ·split at h
  ·split at h
   ·split at h
    ·injection h with h;injection h with _ h;subst h
     rename_i h1 _ _ _
     simp [vD h1]
    ·cases h
   ·cases h
  ·cases h
 ·cases h
theorem LF {g:Gh}{T:VT}{w:World}(r:RW g T w){ro:Nat}{t tx ty:TypeId}{s x y:TV}{us ux:Value}{T':VT}(h:rQ P ro T t tx s x=some (y,T'))(hs:VR g w s us)(hx:VR g w x ux):
  ∃u g' w',(append_ #[t,tx] ty #[us,ux]).run P w=.ok u w'∧VR g' w' y u∧Evo g w g' w'∧RW g' T' w'∧Fix ro g T w T' w':=by
 unfold rQ at h
 split at h
 ·rename_i size id off
  split at h
  ·rename_i cs hid
   cases hb:ble ro id with
   |false=>rw [hb] at h;cases h
   |true=>
    rw [hb] at h
    simp only [cond_true] at h
    have hb:=le_of_ble_eq_true hb
    obtain ⟨g1,e1,r1,v1⟩:=I3 r hid hs
    obtain ⟨v,g',w',k1,k2,k3,k4,k5⟩:=w7 (P:=P) (ty:=ty) r1 h v1 (hx.mono e1)
    have f1:Fix ro g T w {(T.kill id) with tails:=T.tails++ [(0,size,false)]} w:=by
     refine ⟨by simp [VT.kill],λi hi hl=> ?_,λ_ _ _ _ _ _ _=>rfl⟩
     simp only [VT.kill]
     rw [List.getElem?_set_ne (by omega)]
    exact ⟨v,g',w',k1,k2,e1.trans k3,k4,f1.trans e1 (Fix.of_same k5 (Cv h))⟩
  ·cases h
 ·cases h
def lH (P:Program)(ro:Nat)(T:VT)(op:Op)(ev:Operand→TV):Option (TV × VT):=match op with
 | .makeSlice t l c=>oK P T t (ev l) (ev c)
 | .store t a x=>qM P ro T t (ev a) (ev x)
 | .mapUpdate t m k v=>uP P ro T t (ev m) (ev k) (ev v)
 | .insert t m k v=>uP P ro T t (ev m) (ev k) (ev v)
 | .mapEntry t m k=>zc P ro T t (ev m) (ev k)
 | .entryStore _ m s v=>zd ro T (ev m) (ev s) (ev v)
 | .makeMap t r=>mu P T t (r.map ev)
 | .call c=>match c.callee,c.argTypes.toList,c.args.toList with
  | .builtin .append,[t,tx],[s,x]=>bif gk (P.underlying tx) then (match lG P T t tx (ev s) (ev x) with
   |some r=>some r
   |none=>match rQ P ro T t tx (ev s) (ev x) with
    |some r=>some r
    |none=>lF P ro T t tx (ev s) (ev x)) else xf P T t tx (ev s) (ev x)
  | .builtin .copy,[t,tx],[s,x]=>(match tg P ro T t tx (ev s) (ev x) with
   |some r=>some r
   |none=>tf P ro T t tx (ev s) (ev x))
  | .builtin .delete,[t,_],[m,k]=>zb P ro T t (ev m) (ev k)
  | .builtin .clear,[t],[m]=>Cs P ro T t (ev m)
  |_,_,_=>none
 |_=>none
theorem LG {ro:Nat}{g:Gh}{T T':VT}{w:World}(r:RW g T w){o:Oper}{ev:Operand→TV}{ρ:Operand→Value}{y:TV}(hp:lH P ro T o.op ev=some (y,T'))(hev:∀x,VR g w (ev x) (ρ x)):
  ∃m v g' w',(execOp ρ o).run P w=.ok m w'∧iS m=some v∧VR g' w' y v∧Evo g w g' w'∧RW g' T' w'∧Fix ro g T w T' w':=by
 obtain ⟨dst,op,ty,pos,af,gd⟩:=o
 simp only at hp
 cases op<;>simp only [lH] at hp<;>try (cases hp)
 case makeSlice t l c=>
  obtain ⟨h1,h2⟩:=IS (P:=P) r hp (hev l) (hev c)
  obtain ⟨v,g',w',k1,k2,k3,k4,k5⟩:=h1
  exact ⟨.value v,v,g',w',by simp [execOp,k1],rfl,k2,k3,k4,Fix.of_same k5 h2⟩
 case store t a x=>
  obtain ⟨g',w',h2,h3,h4,h5,h6⟩:=w8 (P:=P) r hp (hev a) (hev x)
  exact ⟨.skip,undef,g',w',by simp [execOp,h2],rfl,h3,h4,h5,h6⟩
 case mapUpdate t m k v=>
  obtain ⟨g',w',h2,h3,h4,h5,h6⟩:=xe (P:=P) r hp (hev m) (hev k) (hev v)
  exact ⟨.skip,undef,g',w',by simp [execOp,h2],rfl,h3,h4,h5,h6⟩
 case insert t m k v=>
  obtain ⟨g',w',h2,h3,h4,h5,h6⟩:=xe (P:=P) r hp (hev m) (hev k) (hev v)
  exact ⟨.skip,undef,g',w',by simp [execOp,h2],rfl,h3,h4,h5,h6⟩
 case mapEntry t m k=>
  obtain ⟨u,g',w',h2,h3,h4,h5,h6⟩:=G2 (P:=P) r hp (hev m) (hev k)
  exact ⟨.value u,u,g',w',by simp [execOp,h2],rfl,h3,h4,h5,h6⟩
 case entryStore t m s v=>
  obtain ⟨g',w',h2,h3,h4,h5,h6⟩:=G3 (P:=P) (t:=t) r hp (hev m) (hev s) (hev v)
  exact ⟨.skip,undef,g',w',by simp [execOp,h2],rfl,h3,h4,h5,h6⟩
 case makeMap t rr=>
  obtain ⟨h1,h2⟩:=E5 (P:=P) r hp (BR.map hev rr)
  obtain ⟨v,g',w',k1,k2,k3,k4,k5⟩:=h1
  exact ⟨.value v,v,g',w',by simp [execOp,k1],rfl,k2,k3,k4,Fix.of_same k5 h2⟩
 case call c=>
  obtain ⟨cal,args,ats⟩:=c
  split at hp
  ·rename_i t tx s x hc h1 h2
   simp only at hc h1 h2
   subst hc
   have e1:ats= #[t,tx]:=by rw [←toArray_toList (xs:=ats),h1]
   have e2:args= #[s,x]:=by rw [←toArray_toList (xs:=args),h2]
   subst e1 e2
   cases hk:gk (P.underlying tx) with
   |false=>
    rw [hk] at hp
    obtain ⟨u,g',w',k1,k2,k3,k4,k5⟩:=Ly (P:=P) (ro:=ro) (ty:=ty) r hp (hev s) (hev x)
    exact ⟨.value u,u,g',w',by simp [execOp,resolve,invoke,builtin,k1],rfl,k2,k3,k4,k5⟩
   |true=>
    rw [hk] at hp
    simp only [cond_true] at hp
    split at hp
    ·rename_i q hq
     injection hp with hp;subst hp
     obtain ⟨u,g',w',k1,k2,k3,k4,k5⟩:=LC (P:=P) (ro:=ro) (ty:=ty) r hq (hev s) (hev x) hk
     exact ⟨.value u,u,g',w',by simp [execOp,resolve,invoke,builtin,k1],rfl,k2,k3,k4,k5⟩
    split at hp
    ·rename_i q hq
     injection hp with hp;subst hp
     obtain ⟨u,g',w',k1,k2,k3,k4,k5⟩:=LF (P:=P) (ro:=ro) (ty:=ty) r hq (hev s) (hev x)
     exact ⟨.value u,u,g',w',by simp [execOp,resolve,invoke,builtin,k1],rfl,k2,k3,k4,k5⟩
    obtain ⟨u,g',w',k1,k2,k3,k4,k5⟩:=Lt (P:=P) (ty:=ty) r hp (hev s) (hev x) hk
    exact ⟨.value u,u,g',w',by simp [execOp,resolve,invoke,builtin,k1],rfl,k2,k3,k4,k5⟩
  ·rename_i t tx s x hc h1 h2
   simp only at hc h1 h2
   subst hc
   have e1:ats= #[t,tx]:=by rw [←toArray_toList (xs:=ats),h1]
   have e2:args= #[s,x]:=by rw [←toArray_toList (xs:=args),h2]
   subst e1 e2
   split at hp
   ·rename_i q hq
    injection hp with hp;subst hp
    obtain ⟨u,g',w',k1,k2,k3,k4,k5⟩:=IZ (P:=P) (ty:=ty) r hq (hev s) (hev x)
    exact ⟨.value u,u,g',w',by simp [execOp,resolve,invoke,builtin,k1],rfl,k2,k3,k4,k5⟩
   ·obtain ⟨u,g',w',k1,k2,k3,k4,k5⟩:=IY (P:=P) (ty:=ty) r hp (hev s) (hev x)
    exact ⟨.value u,u,g',w',by simp [execOp,resolve,invoke,builtin,k1],rfl,k2,k3,k4,k5⟩
  ·rename_i t tk m k hc h1 h2
   simp only at hc h1 h2
   subst hc
   have e1:ats= #[t,tk]:=by rw [←toArray_toList (xs:=ats),h1]
   have e2:args= #[m,k]:=by rw [←toArray_toList (xs:=args),h2]
   subst e1 e2
   obtain ⟨u,g',w',k1,k2,k3,k4,k5⟩:=G1 (P:=P) (ty:=ty) (tk:=tk) r hp (hev m) (hev k)
   exact ⟨.value u,u,g',w',by simp [execOp,resolve,invoke,builtin,k1],rfl,k2,k3,k4,k5⟩
  ·rename_i t m hc h1 h2
   simp only at hc h1 h2
   subst hc
   have e1:ats= #[t]:=by rw [←toArray_toList (xs:=ats),h1]
   have e2:args= #[m]:=by rw [←toArray_toList (xs:=args),h2]
   subst e1 e2
   obtain ⟨u,g',w',k1,k2,k3,k4,k5⟩:=I0 (P:=P) (ty:=ty) r hp (hev m)
   exact ⟨.value u,u,g',w',by simp [execOp,resolve,invoke,builtin,k1],rfl,k2,k3,k4,k5⟩
  ·cases hp
def gH (P:Program)(ro:Nat)(T:VT)(op:Op)(ev:Operand→TV):Option (TV × VT):=match bu P op ev with
 |some x=>some (x,T)
 |none=>match bs P T op ev with
  |some x=>some (x,T)
  |none=>match lH P ro T op ev with
   |some r=>some r
   |none=>bif pJ ro op ev then vC P T op ev else none
theorem Fs {ro:Nat}{g:Gh}{T T':VT}{w:World}(r:RW g T w){o:Oper}{ev:Operand→TV}{ρ:Operand→Value}{y:TV}(h:gH P ro T o.op ev=some (y,T'))(hev:∀x,VR g w (ev x) (ρ x)):
  ∃m v g' w',(execOp ρ o).run P w=.ok m w'∧iS m=some v∧VR g' w' y v∧Evo g w g' w'∧RW g' T' w'∧Fix ro g T w T' w':=by
 unfold gH at h
 split at h
 ·rename_i x hx
  injection h with h;injection h with e1 e2;subst e1 e2
  obtain ⟨v,h1,h2⟩:=nk (P:=P) hx hev
  exact ⟨_,v,g,w,h2 w,rfl,h1,Evo.refl _ _,r,Fix.refl _ _ _ _⟩
 ·split at h
  ·rename_i x hx
   injection h with h;injection h with e1 e2;subst e1 e2
   obtain ⟨v,h1,h2⟩:=th (P:=P) r hx hev
   exact ⟨_,v,g,w,h2 w (Same.refl _ _ _),rfl,h1,Evo.refl _ _,r,Fix.refl _ _ _ _⟩
  ·split at h
   ·rename_i p hp
    injection h with h;subst h
    exact LG r hp hev
   ·cases hf:pJ ro o.op ev with
    |false=>rw [hf] at h;cases h
    |true=>
     rw [hf] at h
     exact Fl (P:=P) r hf h hev
end
section
variable {P:Program}
def dH (r:Option Nat):Fence:={wide with round:=r}
theorem qz {r:Option Nat}{n:Nat}{f:FuncId}{args:Array Value}{w:World}{R:Ending→World→Prop}(h:Calls P f args w R):CallsIn (dH r) n P f args w R:=
 (callsIn_wide (n:=n)).2 h
theorem Cw {r:Option Nat}{n:Nat}{f:FuncId}{args:Array Value}{w:World}{R:Ending→World→Prop}(h:CallsIn (dH r) n P f args w R):Calls P f args w R:=
 (callsIn_wide (n:=n)).1 h
def di:Op→Bool
 | .defer _=>false
 |_=>true
theorem Pu {r:Option Nat}{o:Oper}{a:Act}{w:World}{next:Act→World→Prop}{Q Q':Exit→Act→World→Prop}(hQ:∀e a w,(∀c,e=.panic c→¬Q e a w)∧(e=.outgrown→¬Q e a w))(hd:di o.op=true)
  (h:o.wp P a w next Q):o.wpIn (dH r) 0 P a w next Q':=by
 refine ⟨λ_ _=>trivial,?_⟩
 have hne:∀c,o.op≠ .defer c:=λc hc=>by rw [hc] at hd;cases hd
 rw [semAt_eq _ _ _ hne]
 unfold wp at h
 generalize (execOp a.eval o).run P w=res at h ⊢
 unfold Oper.upon at h
 split at h
 ·exact h
 ·exact h
 ·exact h
 ·refine ⟨λh=>(by cases h),qz (h.mono ?_)⟩
  intro e w' he
  cases e with
  |returned v=>exact he
  |panicked ch=>exact ((hQ _ _ _).1 ch rfl he).elim
  |outgrown=>obtain ⟨a0,w0,he⟩:=he;exact ((hQ _ _ _).2 rfl he).elim
 ·refine ⟨λh=>(by cases h),λc cs _=> ?_⟩
  obtain ⟨v,w',h1,h2⟩:=h c cs
  exact ⟨v,w',h1,stepsIn_wide.2 h2⟩
 ·exact ((hQ _ _ _).1 _ rfl h).elim
 ·exact h.elim
def VPx (P:Program)(G:aV)(ro:Nat)(o:Oper)(σ:List TV)(T:VT)(K:List TV→VT→Prop):Prop:=
 ∀g w (a:Act) (next:Act→World→Prop) (Q:Exit→Act→World→Prop),RW g T w→GOk G g w→VRs g w σ a.tmps.toList→
  (∀σ' T' g' w' (a':Act),(∃v,a'=a.put o.dst v)→K σ' T'→Evo g w g' w'→RW g' T' w'→VRs g' w' σ' a'.tmps.toList→a'.defers=a.defers→Fix ro g T w T' w'→next a' w')→o.wp P a w next Q
def VPi (P:Program)(G:aV)(ro:Nat)(o:Oper)(σ:List TV)(T:VT)(K:List TV→VT→Prop):Prop:=
 ∀r g w (a:Act) (next:Act→World→Prop) (Q:Exit→Act→World→Prop),RW g T w→GOk G g w→VRs g w σ a.tmps.toList→
  (∀σ' T' g' w' (a':Act),(∃v,a'=a.put o.dst v)→K σ' T'→Evo g w g' w'→RW g' T' w'→VRs g' w' σ' a'.tmps.toList→a'.defers=a.defers→Fix ro g T w T' w'→next a' w')→o.wpIn (dH r) 0 P a w next Q
theorem VPx.toI {G:aV}{ro:Nat}{o:Oper}{σ:List TV}{T:VT}{K:List TV→VT→Prop}(h:VPx P G ro o σ T K)(hd:di o.op=true):VPi P G ro o σ T K:=
 λr g w a next Q rw0 hG hσ hn=>Pu (Q:=λ_ _ _=>False) (λ_ _ _=>⟨λ_ _ h=>h,λ_ h=>h⟩) hd (h g w a next _ rw0 hG hσ hn)
def mk (g:Gh)(id:Nat):Deferred:={target:=.collected ((g.obj id).getD 0),args:= #[]}
abbrev KX:=Exit→List TV→VT→List Nat→Prop
def LH (g:Gh)(rd r:Option Nat):Prop:=match rd with
 |some id=>r.isSome=true∧g.obj id=r
 |none=>r=none
def VWx (P:Program)(G:aV)(rd:Option Nat)(ro:Nat)(c:Code)(σ:List TV)(T:VT)(D:List Nat)(Q:KX):Prop:=
 ∀r g w (a:Act),RW g T w→GOk G g w→VRs g w σ a.tmps.toList→a.defers=D.map (mk g)→(∀id∈D,(g.obj id).isSome=true)→LH g rd r→
  c.wpIn (dH r) 0 P (λe a' w'=>∃g' σ' T' D',Q e σ' T' D'∧Evo g w g' w'∧RW g' T' w'∧VRs g' w' σ' a'.tmps.toList∧a'.defers=D'.map (mk g')∧(∀id∈D',(g'.obj id).isSome=true)∧Fix ro g T w T' w') a w
def VCx (P:Program)(G:aV)(ro:Nat)(f:FuncId)(xs:List TV)(T:VT)(Q:TV→VT→Prop):Prop:=
 ∀g w us,RW g T w→GOk G g w→VRs g w xs us→Calls P f us.toArray w λe w'=>∃v x g' T',e=.returned v∧Q x T'∧Evo g w g' w'∧RW g' T' w'∧VR g' w' x v∧Fix ro g T w T' w'
def WZ (P:Program)(G:aV)(ro id:Nat)(xs:List TV)(T:VT)(Q:TV→VT→Prop):Prop:=
 ∀g w us,RW g T w→GOk G g w→VRs g w xs us→∃b fn tmps asg body,g.obj id=some b∧(yield b us.toArray).run P w=.ok (.round b fn tmps asg body) w∧
  RoundIn wide 0 P b fn tmps asg body w λe w'=>∃v x g' T',e=.returned v∧Q x T'∧Evo g w g' w'∧RW g' T' w'∧VR g' w' x v∧Fix ro g T w T' w'
theorem oL {g g':Gh}{w w':World}(e:Evo g w g' w'){D:List Nat}(h:∀id∈D,(g.obj id).isSome=true):D.map (mk g')=D.map (mk g):=by
 apply List.map_congr_left
 intro id hid
 obtain ⟨b,hb⟩:=isSome_iff_exists.1 (h id hid)
 simp [mk,hb,e.obj id b hb]
theorem iy {g g':Gh}{w w':World}(e:Evo g w g' w'){D:List Nat}(h:∀id∈D,(g.obj id).isSome=true):∀id∈D,(g'.obj id).isSome=true:=by
 intro id hid
 obtain ⟨b,hb⟩:=isSome_iff_exists.1 (h id hid)
 rw [e.obj id b hb];rfl
theorem Cx {g g':Gh}{w w':World}(e:Evo g w g' w'){rd r:Option Nat}(h:LH g rd r):LH g' rd r:=by
 cases rd with
 |none=>exact h
 |some id=>
  obtain ⟨h1,h2⟩:=h
  obtain ⟨b,hb⟩:=isSome_iff_exists.1 h1
  subst hb
  exact ⟨h1,e.obj id b h2⟩
theorem VCx.mono {G:aV}{ro:Nat}{f:FuncId}{xs:List TV}{T:VT}{Q Q':TV→VT→Prop}(h:VCx P G ro f xs T Q)(k:∀x T',Q x T'→Q' x T'):VCx P G ro f xs T Q':=
 λg w us r hG hx=>Calls.mono (h g w us r hG hx) λe w' ⟨v,x,g',T',h1,h2,h3⟩=>⟨v,x,g',T',h1,k _ _ h2,h3⟩
theorem VWx.mono {G:aV}{rd:Option Nat}{ro:Nat}{c:Code}{σ:List TV}{T:VT}{D:List Nat}{Q Q':KX}(h:VWx P G rd ro c σ T D Q)(k:∀e σ T D,Q e σ T D→Q' e σ T D):VWx P G rd ro c σ T D Q':=
 λr g w a rw0 hG hσ hd hD hr=>wpIn_mono (h r g w a rw0 hG hσ hd hD hr) λe a' w' ⟨g',σ',T',D',hq,h⟩=>⟨g',σ',T',D',k _ _ _ _ hq,h⟩
theorem VPx.call {G:aV}{ro:Nat}{o:Oper}{fo:Operand}{args:Array Operand}{ats:Array TypeId}{σ:List TV}{T:VT}{K:List TV→VT→Prop}{f:FuncId}{fn:Func}{fi ca:List TV}
  (ho:o.op=.call ⟨.value fo,args,ats⟩) (hf:bt G σ fo=.fn (.func f) fi ca) (hfn:P.funcs[f]?=some fn) (hb:fn.body.isSome=true) (hnm:(fn.name== "runtime.NumGoroutine")=false)
  (hc:VCx P G ro f (fi++args.toList.map (bt G σ)++ca) T λx T'=>K (bR σ o.dst x) T'):VPx P G ro o σ T K:=by
 intro g w a next Q' r hG hσ hn
 have h1:=fC hG hσ fo
 rw [hf] at h1
 obtain ⟨us,vs,h2,h3,h4⟩:=h1.fn_inv
 have hrun:=Lp ho h2 hfn hb hnm w
 have hargs:=(h3.app (jK (fC hG hσ) args.toList)).app h4
 unfold wp
 rw [hrun]
 refine mono (hc g w _ r hG hargs) ?_
 rintro e w' ⟨v,x,g',T',rfl,hq,e',r',hv,hx⟩
 exact hn _ _ g' w' _ ⟨_,rfl⟩ hq e' r' (g8 (hσ.mono e') o.dst hv) (da _ _ _) hx
theorem Pv {o:Oper}{fo:Operand}{args:Array Operand}{ats:Array TypeId}(ho:o.op=.call ⟨.value fo,args,ats⟩){ρ:Operand→Value}{b:Nat}(hf:ρ fo=.func (.yield b) #[] #[])(w:World):
  (execOp ρ o).run P w=(yield b (args.toList.map ρ).toArray).run P w:=by
 obtain ⟨dst,op,ty,pos,af,gd⟩:=o
 simp only at ho;subst ho
 simp [execOp,resolve,hf,Deferred.ofValue,invoke,yW]
theorem VPi.yld {G:aV}{ro:Nat}{o:Oper}{fo:Operand}{args:Array Operand}{ats:Array TypeId}{σ:List TV}{T:VT}{K:List TV→VT→Prop}{id:Nat}
  (ho:o.op=.call ⟨.value fo,args,ats⟩) (hf:bt G σ fo=.yld id) (hc:WZ P G ro id (args.toList.map (bt G σ)) T λx T'=>K (bR σ o.dst x) T'):VPi P G ro o σ T K:=by
 intro r g w a next Q' rw0 hG hσ hn
 have h1:=fC hG hσ fo
 rw [hf] at h1
 obtain ⟨b,hb,hu⟩:=h1.yld_inv
 obtain ⟨b',fn,tmps,asg,body,hb',hrun,hround⟩:=hc g w _ rw0 hG (jK (fC hG hσ) args.toList)
 rw [hb] at hb';injection hb' with hb';subst hb'
 refine ⟨λ_ _=>trivial,?_⟩
 rw [semAt_eq _ _ _ (by rw [ho];intro c hc;cases hc),Pv ho hu,hrun]
 refine ⟨λh=>(by cases h),?_⟩
 refine RoundIn.mono (F:=dH r) (show RoundIn (dH r) 0 P b fn tmps asg body w _ from hround) ?_
 rintro e w' ⟨v,x,g',T',rfl,hq,e',r',hv,hx⟩
 exact hn _ _ g' w' _ ⟨_,rfl⟩ hq e' r' (g8 (hσ.mono e') o.dst hv) (da _ _ _) hx
end
section
variable {P:Program}{g:Gh}{T:VT}{w:World}
@[irreducible] def Cy (P:Program)(T:VT)(t:TypeId)(x:TV):Option (TV × VT):=(λ_=>none) (P,T,t,x)
theorem I4 (r:RW g T w){t:TypeId}{x y:TV}{u:Value}{T':VT}(h:Cy P T t x=some (y,T'))(hx:VR g w x u):Does P g T w (Instr.range t u) y T'∧T'.objs.take T.objs.length=T.objs:=by
 have _u:=r
 have _u:=hx
 unfold Cy at h
 cases h
structure ERel (g:Gh) (w:World) (es:List (Value × TV × Nat)) (ms:List MapEntry):Prop where
 len:ms.length=es.length
 at_:∀(j:Nat) e m,es[j]?=some e→ms[j]?=some m→m.key=e.1∧VR g w e.2.1 m.val∧m.born=e.2.2
theorem ERel.of {es:List (Value × TV × Nat)}{ms:List MapEntry}(h1:ms.map (·.key)=es.map (·.1))(h2:VRs g w (es.map (·.2.1)) (ms.map (·.val)))(h3:ms.map (·.born)=es.map (·.2.2)):ERel g w es ms where
 len:=by simpa using congrArg List.length h1
 at_ j e m he hm:=by
  refine ⟨?_,?_,?_⟩
  ·have:=congrArg (·[j]?) h1;simpa [he,hm] using this
  ·exact h2.2 j _ _ (by simp [he]) (by simp [hm])
  ·have:=congrArg (·[j]?) h3;simpa [he,hm] using this
theorem ERel.nil:ERel g w [] []:=⟨rfl,λj e m h=>by simp at h⟩
theorem ERel.cons {e:Value × TV × Nat}{m:MapEntry}{es:List (Value × TV × Nat)}{ms:List MapEntry}(h:m.key=e.1∧VR g w e.2.1 m.val∧m.born=e.2.2)(k:ERel g w es ms):ERel g w (e::es) (m::ms):=
 ⟨by simp [k.len],λj e' m' he hm=>by
  cases j with
  |zero=>simp at he hm;subst he hm;exact h
  |succ j=>exact k.at_ j e' m' (by simpa using he) (by simpa using hm)⟩
theorem ERel.tail {e:Value × TV × Nat}{m:MapEntry}{es:List (Value × TV × Nat)}{ms:List MapEntry}(k:ERel g w (e::es) (m::ms)):ERel g w es ms:=
 ⟨by simpa using k.len,λj e' m' he hm=>k.at_ (j+1) e' m' (by simpa using he) (by simpa using hm)⟩
theorem ERel.filter (p:Nat→Bool):∀{es:List (Value × TV × Nat)} {ms:List MapEntry},ERel g w es ms→ERel g w (es.filter λe=>p e.2.2) (ms.filter λm=>p m.born)
 |[],[],_=>by simpa using ERel.nil
 |[],_::_,k=>by have:=k.len;simp at this
 |_::_,[],k=>by have:=k.len;simp at this
 |e::es,m::ms,k=>by
  have h0:=k.at_ 0 e m rfl rfl
  have ih:=ERel.filter p k.tail
  simp only [List.filter_cons,h0.2.2]
  cases p e.2.2 with
  |true=>exact .cons h0 ih
  |false=>exact ih
theorem ERel.app {es es':List (Value × TV × Nat)}{ms ms':List MapEntry}(h:ERel g w es ms)(k:ERel g w es' ms'):ERel g w (es++es') (ms++ms'):=
 ⟨by simp [h.len,k.len],λj e m he hm=>by
  rcases lt_or_ge j es.length with hj | hj
  ·rw [List.getElem?_append_left hj] at he
   rw [List.getElem?_append_left (by rw [h.len];exact hj)] at hm
   exact h.at_ j e m he hm
  ·rw [List.getElem?_append_right hj] at he
   rw [List.getElem?_append_right (by rw [h.len];exact hj),h.len] at hm
   exact k.at_ _ e m he hm⟩
def G4 {α:Type}(k:α→Prop):List α→Prop
 |[]=>True
 |[a]=>k a
 |a::b::l=>k a∧G4 k (b::l)
theorem Ft {α:Type}{k:α→Prop}:∀{l:List α},G4 k l→∀a∈l,k a
 |[],_,a,h=>by cases h
 |[x],h,a,ha=>by simp at ha;subst ha;exact h
 |x::y::l,h,a,ha=>by
  simp only [G4] at h
  rcases mem_cons.1 ha with rfl | ha
  ·exact h.1
  ·exact Ft h.2 a ha
@[irreducible] def Cz (T:VT)(x:TV):Option (Nat × List (TV × VT)):=(λ_=>none) (T,x)
theorem I5 (r:RW g T w){ro i:Nat}{ty:TypeId}{x:TV}{u:Value}{l:List (TV × VT)}(h:Cz T x=some (i,l))(hx:VR g w x u)(hr:ro≤i):
  ∃p∈l,∃v g' w',(Instr.next u false ty).run P w=.ok v w'∧VR g' w' p.1 v∧Evo g w g' w'∧RW g' p.2 w'∧Fix ro g T w p.2 w':=by
 have _u:=r
 have _u:=hx
 have _u:=hr
 unfold Cz at h
 cases h
@[irreducible] def xg (T:VT)(x:TV):Option TV:=(λ_=>none) (T,x)
theorem As (r:RW g T w){x y:TV}{u:Value}(h:xg T x=some y)(hx:VR g w x u):∃v,VR g w y v∧(Instr.entry u).run P w=.ok v w:=by
 have _u:=r
 have _u:=hx
 unfold xg at h
 cases h
end
def G5:Value→Value→Bool
 | .int k a,.int k' b=>decide (k=k')&&decide (a=b)
 | .bool a,.bool b=>decide (a=b)
 | .string a,.string b=>decide (a=b)
 | .pointer none,.pointer none=>true
 | .slice none a b,.slice none c d=>beq a c&&beq b d
 | .map none,.map none=>true
 | .nilFunc,.nilFunc=>true
 | .nilIface,.nilIface=>true
 |_,_=>false
theorem LI {a b:Value}(h:G5 a b=true):a=b:=by
 unfold G5 at h
 split at h<;>try simp only [and_eq_true,decide_eq_true_eq] at h
 ·obtain ⟨rfl,rfl⟩:=h;rfl
 ·subst h;rfl
 ·subst h;rfl
 ·rfl
 ·rw [eq_of_beq_eq_true h.1,eq_of_beq_eq_true h.2]
 ·rfl
 ·rfl
 ·rfl
 ·cases h
def G6:Tok→Tok→Bool
 | .none,.none=>true
 | .full,.full=>true
 | .live,.live=>true
 | .tail k e,.tail k' e'=>beq k k' &&beq e e'
 | .past k e,.past k' e'=>beq k k' &&beq e e'
 |_,_=>false
theorem LJ {a b:Tok}(h:G6 a b=true):a=b:=by
 unfold G6 at h
 split at h
 ·rfl
 ·rfl
 ·rfl
 ·rw [and_eq_true] at h;rw [eq_of_beq_eq_true h.1,eq_of_beq_eq_true h.2]
 ·rw [and_eq_true] at h;rw [eq_of_beq_eq_true h.1,eq_of_beq_eq_true h.2]
 ·cases h
def LK:Fn→Fn→Bool
 | .func a,.func b=>beq a b
 |_,_=>false
theorem Pw {a b:Fn}(h:LK a b=true):a=b:=by
 unfold LK at h
 split at h
 ·rw [eq_of_beq_eq_true h]
 ·cases h
mutual
def jt:TV→TV→Bool
 | .val a,.val b=>G5 a b
 | .ptr i o,.ptr j p=>beq i j&&beq o p
 | .vec s es t,.vec s' es' t'=>beq s s' &&G6 t t' &&ti es es'
 | .elt cs,.elt ds=>m7 cs ds
 | .sl a b c d,.sl a' b' c' d'=>beq a a' &&beq b b' &&beq c c' &&beq d d'
 | .row a b c d,.row a' b' c' d'=>beq a a' &&beq b b' &&beq c c' &&beq d d'
 | .agg cs,.agg ds=>m7 cs ds
 | .tup cs,.tup ds=>m7 cs ds
 | .fn f a b,.fn g c d=>LK f g&&m7 a c&&m7 b d
 | .ifc t x,.ifc u y=>beq t u&&jt x y
 | .map i,.map j=>beq i j
 | .dead,.dead=>true
 |_,_=>false
def m7:List TV→List TV→Bool
 |[],[]=>true
 |x::l,y::m=>jt x y&&m7 l m
 |_,_=>false
def ti:List (List TV)→List (List TV)→Bool
 |[],[]=>true
 |x::l,y::m=>m7 x y&&ti l m
 |_,_=>false
end
mutual
theorem ze:∀(x y:TV),jt x y=true→x=y
 | .val a,y,h=>by cases y<;>simp only [jt] at h<;>first | rw [LI h] | (cases h;done)
 | .ptr i o,y,h=>by
  cases y<;>simp only [jt,and_eq_true] at h<;>first | rw [eq_of_beq_eq_true h.1,eq_of_beq_eq_true h.2] | (cases h;done)
 | .vec s es t,y,h=>by
  cases y<;>simp only [jt,and_eq_true] at h<;>first | rw [eq_of_beq_eq_true h.1.1,LJ h.1.2,At _ _ h.2] | (cases h;done)
 | .elt cs,y,h=>by cases y<;>simp only [jt] at h<;>first | rw [kP _ _ h] | (cases h;done)
 | .sl a b c d,y,h=>by
  cases y<;>simp only [jt,and_eq_true] at h<;>first | rw [eq_of_beq_eq_true h.1.1.1,eq_of_beq_eq_true h.1.1.2,eq_of_beq_eq_true h.1.2,eq_of_beq_eq_true h.2] | (cases h;done)
 | .row a b c d,y,h=>by
  cases y<;>simp only [jt,and_eq_true] at h<;>first | rw [eq_of_beq_eq_true h.1.1.1,eq_of_beq_eq_true h.1.1.2,eq_of_beq_eq_true h.1.2,eq_of_beq_eq_true h.2] | (cases h;done)
 | .agg cs,y,h=>by cases y<;>simp only [jt] at h<;>first | rw [kP _ _ h] | (cases h;done)
 | .tup cs,y,h=>by cases y<;>simp only [jt] at h<;>first | rw [kP _ _ h] | (cases h;done)
 | .fn f a b,y,h=>by
  cases y<;>simp only [jt,and_eq_true] at h<;>first | rw [Pw h.1.1,kP _ _ h.1.2,kP _ _ h.2] | (cases h;done)
 | .ifc t x,y,h=>by
  cases y<;>simp only [jt,and_eq_true] at h<;>first | rw [eq_of_beq_eq_true h.1,ze _ _ h.2] | (cases h;done)
 | .map i,y,h=>by cases y<;>simp only [jt] at h<;>first | rw [eq_of_beq_eq_true h] | (cases h;done)
 | .yld i,y,h=>by cases y<;>simp only [jt] at h<;>(cases h;done)
 | .dead,y,h=>by cases y<;>simp only [jt] at h<;>first | rfl | (cases h;done)
theorem kP:∀(x y:List TV),m7 x y=true→x=y
 |[],y,h=>by cases y<;>simp only [m7] at h<;>first | rfl | (cases h;done)
 |x::l,y,h=>by
  cases y<;>simp only [m7,and_eq_true] at h<;>first | rw [ze _ _ h.1,kP _ _ h.2] | (cases h;done)
theorem At:∀(x y:List (List TV)),ti x y=true→x=y
 |[],y,h=>by cases y<;>simp only [ti] at h<;>first | rfl | (cases h;done)
 |x::l,y,h=>by
  cases y<;>simp only [ti,and_eq_true] at h<;>first | rw [kP _ _ h.1,At _ _ h.2] | (cases h;done)
end
section
variable {P:Program}{ops:Array Oper}{r:Option Nat}
abbrev HS:=Array Bool→World→Prop
def YieldsS (P:Program)(ops:Array Oper)(S:World→Prop)(o:Oper)(v:Value)(a:Act):Prop:=
 (wanted o (yielded ops a.tmps)=true∧∀w,S w→(execOp a.eval o).run P w=.ok (.value v) w)∨
 (wanted o (yielded ops a.tmps)=false∧v=undef)
theorem YieldsS.wpOpIn {S:World→Prop}{Q:Exit→Act→World→Prop}{i:Nat}{o:Oper}{v:Value}{a:Act}(hd:di o.op=true)(hi:ops[i]?=some o)(hy:YieldsS P ops S o v a)
  {K:Act→World→Prop} {w:World} (hS:S w) (h:K (a.put o.dst v) w):wpOpIn (dH r) 0 P ops Q i K a w:=by
 have hne:∀c,o.op≠ .defer c:=λc hc=>by rw [hc] at hd;cases hd
 unfold Go.wpOpIn
 simp only [hi]
 rcases hy with ⟨hw,hv⟩ | ⟨hw,rfl⟩
 ·rw [if_pos hw]
  refine ⟨λ_ _=>trivial,?_⟩
  rw [semAt_eq _ _ _ hne,hv w hS]
  exact h
 ·rw [if_neg (by rw [hw];exact Bool.false_ne_true)]
  exact ⟨λ_ _=>trivial,h⟩
theorem YieldsS.of_same {S:World→Prop}{o:Oper}{v:Value}{a a':Act}(hy:YieldsS P ops S o v a)(he:execOp a'.eval o=execOp a.eval o)
  (hw:wanted o (yielded ops a'.tmps)=wanted o (yielded ops a.tmps)):YieldsS P ops S o v a':=by
 unfold YieldsS at*
 rw [he,hw]
 exact hy
theorem E8 {S:World→Prop}{Q:Exit→Act→World→Prop}{j:Nat}{oi oj:Oper}{v:Value}(hdj:di oj.op=true)(hj:ops[j]?=some oj)(hap:oi.apart ops oj=true)
  (hsi:∀cs b,oi.op≠ .select cs b) (hsj:∀cs b,oj.op≠ .select cs b)
  (hQ:∀e a w,e≠ .normal→¬Q e a w) {K:Act→World→Prop} {a:Act} {w:World}
  (hy:YieldsS P ops S oi v a) (h:wpOpIn (dH r) 0 P ops Q j K (a.put oi.dst v) w):
  wpOpIn (dH r) 0 P ops Q j (λa' w'=>YieldsS P ops S oi v a'∧K (a'.put oi.dst v) w') a w:=by
 have hne:∀c,oj.op≠ .defer c:=λc hc=>by rw [hc] at hdj;cases hdj
 obtain ⟨h1,h2,h3⟩:=Oper.apart_spec hap
 have ax:∀(a:Act),YieldsS P ops S oi v a→∀u,YieldsS P ops S oi v (a.put oj.dst u):=λa hy u=>
  hy.of_same (execOp_put oi hsi a oj.dst u h3) (wanted_put oi a oj.dst u h3)
 have keepD:∀d,YieldsS P ops S oi v {a with defers:=d::a.defers}:=λd=>hy.of_same rfl rfl
 unfold wpOpIn at*
 simp only [hj] at*
 rw [wanted_put oj a oi.dst v h1] at h
 split
 ·rename_i hw
  simp only [hw,if_true] at h
  unfold Oper.wpIn at*
  refine ⟨λ_ _=>trivial,?_⟩
  have h:=h.2
  rw [semAt_eq _ _ _ hne] at h ⊢
  rw [execOp_put oj hsj a oi.dst v h1] at h
  generalize (execOp a.eval oj).run P w=r at*
  cases r with
  |ok n w'=>
   cases n<;>simp only [uponIn] at h ⊢
   case value u=>exact ⟨ax a hy u,by rw [←put_comm a v u h2];exact h⟩
   case skip=>exact ⟨ax a hy _,by rw [←put_comm a v undef h2];exact h⟩
   case defer d=>
    refine ⟨ax _ (keepD d) _,?_⟩
    rw [←put_comm _ v undef h2,←Act.put_defers]
    exact h
   case enter f args=>
    refine ⟨h.1,CallsIn.mono h.2 λe w'' he=> ?_⟩
    cases e with
    |returned u=>exact ⟨ax a hy u,by rw [←put_comm a v u h2];exact he⟩
    |panicked c=>exact (hQ _ _ _ (by simp) he).elim
    |outgrown=>exact he
   case row row args=>exact ⟨h.1,RowsIn.mono h.2 λu w'' he=>⟨ax a hy u,by rw [←put_comm a v u h2];exact he⟩⟩
   case round l f tmps asg body=>
    refine ⟨h.1,RoundIn.mono h.2 λe w'' he=> ?_⟩
    cases e with
    |returned u=>exact ⟨ax a hy u,by rw [←put_comm a v u h2];exact he⟩
    |panicked c=>exact (hQ _ _ _ (by simp) he).elim
    |outgrown=>exact he
  |halt x w'=>
   cases x<;>simp only [uponIn] at h ⊢
   case panic u=>exact (hQ _ _ _ (by simp) h).elim
 ·rename_i hw
  simp only [hw] at h
  exact ⟨λ_ _=>trivial,ax a hy _,by rw [←put_comm a v undef h2];exact h.2⟩
def iH (P:Program)(r:Option Nat)(ops:Array Oper)(Q:Exit→Act→World→Prop)(S:HS):Nat→Array Bool→Act→World→Prop
 | 0,listed,a,w=>ready .any ops listed= []∧Q .normal a w
 |fuel+1,listed,a,w=>
  (ready .any ops listed= []→Q .normal a w)∧
  ∀i∈ready .any ops listed,wpOpIn (dH r) 0 P ops Q i (λa' w'=>S (listed.setIfInBounds i true) w'∧iH P r ops Q S fuel (listed.setIfInBounds i true) a' w') a w
theorem xh {Q:Exit→Act→World→Prop}{S:HS}:∀(fuel:Nat) (listed:Array Bool) (a:Act) (w:World),iH P r ops Q S fuel listed a w→wpAnyIn (dH r) 0 P .any ops Q fuel listed a w
 | 0,_,_,_,h=>h
 |fuel+1,_,_,_,h=>⟨h.1,λi hi=>wpOpIn_mono (λa' w' h'=>xh fuel _ a' w' h'.2) (h.2 i hi)⟩
def Closed (ops:Array Oper)(listed:Array Bool):Prop:=∀(k:Nat) o,ops[k]?=some o→listed.getD k false=true→∀e∈o.after,binds .any e=true→listed.getD e.on false=true
theorem Closed.set {listed:Array Bool}(h:Closed ops listed){j:Nat}(hj:j∈ready .any ops listed):Closed ops (listed.setIfInBounds j true):=by
 obtain ⟨_,oj,hoj,hall⟩:=mem_ready.1 hj
 intro k o ho hk e he hb
 by_cases hkj:j=k
 ·subst hkj
  rw [hoj] at ho;injection ho with ho;subst ho
  exact getD_set_true (hall e he hb)
 ·rw [getD_set_ne false hkj] at hk
  exact getD_set_true (h k o ho hk e he hb)
def anc (ops:Array Oper):Nat→Nat→Nat→Bool
 | 0,_,_=>false
 |n+1,b,i=>match ops[b]? with
  |some o=>(o.after.toList.any λe=>binds .any e&&beq e.on i) || (o.after.toList.any λe=>binds .any e&&anc ops n e.on i)
  |none=>false
theorem nZ {listed:Array Bool}(hc:Closed ops listed):∀(n b i:Nat),anc ops n b i=true→(∀o,ops[b]?=some o→∀e∈o.after,binds .any e=true→listed.getD e.on false=true)→listed.getD i false=true
 | 0,_,_,h,_=>by simp [anc] at h
 |n+1,b,i,h,hb=>by
  simp only [anc] at h
  split at h
  ·rename_i o ho
   simp only [or_eq_true,any_eq_true,and_eq_true] at h
   rcases h with ⟨e,he,h1,h2⟩ | ⟨e,he,h1,h2⟩
   ·have:=eq_of_beq_eq_true h2
    rw [←this];exact hb o ho e (mem_toList_iff.1 he) h1
   ·have h3:=hb o ho e (mem_toList_iff.1 he) h1
    exact nZ hc n e.on i h2 λo' ho' e' he' hb'=>hc e.on o' ho' h3 e' he' hb'
  ·cases h
theorem tj {Q:Exit→Act→World→Prop}{S:HS}{Sr:World→Prop}{i:Nat}{oi:Oper}{v:Value}(hi:ops[i]?=some oi)(hd:∀(j:Nat) o,ops[j]?=some o→di o.op=true)(hsel:∀(j:Nat) (o:Oper) cs b,ops[j]?=some o→o.op≠ .select cs b)
    (hQ:∀e a w,e≠ .normal→¬Q e a w) (hSS:∀(listed:Array Bool) w,Closed ops listed→listed.getD i false=false→S (listed.setIfInBounds i true) w→Sr w) (hS2:∀(listed:Array Bool) w,S (listed.setIfInBounds i true) w→S listed w):
    ∀(fuel:Nat) (listed:Array Bool) (a:Act) (w:World),Closed ops listed→
      (∀j oj,ops[j]?=some oj→j≠i→listed.getD j true=false→(∀e∈oj.after,binds .any e=true→e.on≠i)→oi.apart ops oj=true)→
      i∈ready .any ops listed→YieldsS P ops Sr oi v a→Sr w→S (listed.setIfInBounds i true) w→
      iH P r ops Q S fuel (listed.setIfInBounds i true) (a.put oi.dst v) w→iH P r ops Q S (fuel+1) listed a w:=by
  intro fuel
  induction fuel with
  |zero=>
    intro listed a w _ _ hr hy hS hS0 H
    refine ⟨λh=>(by rw [h] at hr;cases hr),λj hj=> ?_⟩
    by_cases hji:j=i
    · subst hji;exact hy.wpOpIn (hd _ _ hi) hi hS ⟨hS0,H⟩
    · have:=ready_mono hj hji
      rw [H.1] at this
      cases this
  |succ fuel ih=>
    intro listed a w hc hfree hr hy hS hS0 H
    refine ⟨λh=>(by rw [h] at hr;cases hr),λj hj=> ?_⟩
    by_cases hji:j=i
    · subst hji;exact hy.wpOpIn (hd _ _ hi) hi hS ⟨hS0,H⟩
    · have h1:=H.2 j (ready_mono hj hji)
      obtain ⟨hjun,oj,hoj,hall⟩:=mem_ready.1 hj
      have hiun:=(mem_ready.1 hr).1
      have hnot:∀e∈oj.after,binds .any e=true→e.on≠i:=λe he hb heq=>by
        have h1:=hall e he hb
        rw [heq] at h1
        rcases lt_or_ge i listed.size with h' | h'
        · simp [h'] at hiun h1;rw [hiun] at h1;cases h1
        · simp [Array.getElem?_eq_none h'] at h1
      have h2:=E8 (hd _ _ hoj) hoj (hfree j oj hoj hji hjun hnot) (λcs b=>hsel i oi cs b hi) (λcs b=>hsel j oj cs b hoj) hQ hy h1
      have hfree':∀k ok,ops[k]?=some ok→k≠i→(listed.setIfInBounds j true).getD k true=false→
          (∀e∈ok.after,binds .any e=true→e.on≠i)→oi.apart ops ok=true:=λk ok hk hki hun hno=>by
        refine hfree k ok hk hki ?_ hno
        by_cases hjk:j=k
        · subst hjk;exact hjun
        · rw [getD_set_ne true hjk] at hun;exact hun
      have hc':=hc.set hj
      have hir:=ready_mono hr (Ne.symm hji)
      have hiun':(listed.setIfInBounds j true).getD i false=false:=by
        have h0:=(mem_ready.1 hir).1
        rcases lt_or_ge i (listed.setIfInBounds j true).size with h' | h'
        · have h'' :i<listed.size:=by simpa using h'
          rw [getD_eq_getD_getElem?] at h0 ⊢
          rw [Array.getElem?_eq_getElem h'] at h0 ⊢
          exact h0
        · rw [getD_eq_getD_getElem?,Array.getElem?_eq_none h'];rfl
      refine wpOpIn_mono (λa' w' h3=> ?_) h2
      obtain ⟨h4,h5,h6⟩:=h3
      rw [Array.setIfInBounds_comm _ _ (Ne.symm hji)] at h6 h5
      exact ⟨hS2 _ _ h5,ih (listed.setIfInBounds j true) a' w' hc' hfree' hir h4 (hSS _ _ hc' hiun' h5) h5 h6⟩
theorem ny {Q:Exit→Act→World→Prop}{S S':HS}{i:Nat}(hS:∀(L:Array Bool) w,L.getD i false=true→S L w):∀(fuel:Nat) (listed:Array Bool) (a:Act) (w:World),listed.getD i false=true→
  iH P r ops Q S' fuel listed a w→iH P r ops Q S fuel listed a w
 | 0,_,_,_,_,h=>h
 |fuel+1,listed,a,w,hl,h=>⟨h.1,λj hj=>wpOpIn_mono (λa' w' h'=>⟨hS _ _ (getD_set_true hl),ny hS fuel _ a' w' (getD_set_true hl) h'.2⟩) (h.2 j hj)⟩
theorem vF {Q:Exit→Act→World→Prop}{S:HS}{i fuel:Nat}{listed:Array Bool}{a:Act}{w:World}(hr:ready .any ops listed= [i])
  (h:wpOpIn (dH r) 0 P ops Q i (λa' w'=>S (listed.setIfInBounds i true) w'∧iH P r ops Q S fuel (listed.setIfInBounds i true) a' w') a w):iH P r ops Q S (fuel+1) listed a w:=by
 refine ⟨λh0=> ?_,λj hj=> ?_⟩
 ·rw [hr] at h0;cases h0
 ·rw [hr] at hj
  simp at hj;subst hj;exact h
inductive PK where
 |pk0
 |pk1
 |pk2
 |pk3
def V9:PK→Bool
 | .pk3=>true
 |_=>false
def eO (plan:List (Nat × PK)):List Nat:=(plan.filter λp=>V9 p.2).map (·.1)
def inList:List Nat→Nat→Bool
 |[],_=>false
 |a::l,i=>beq a i || inList l i
theorem gw:∀{l:List Nat} {i:Nat},inList l i=false→i∉l
 |[],_,_=>by simp
 |a::l,i,h=>by
  simp only [inList,Bool.or_eq_false_iff] at h
  have h1:=ne_of_beq_eq_false h.1
  have h2:=gw h.2
  simp only [mem_cons,not_or]
  exact ⟨λe=>h1 e.symm,h2⟩
def ov (ops:Array Oper):List (Nat × PK)→Array Bool→Bool
 |[],listed=>(ready .any ops listed).isEmpty
 | (i,k)::l,listed=>(match k with
   | .pk0=>free .any ops listed i&&(ready .any ops listed).contains i
   | .pk1=>free .any ops listed i&&(ready .any ops listed).contains i&&(eO l).all λb=>anc ops ops.size b i
   |_=>ready .any ops listed== [i])&& !(inList (eO l) i)&&ov ops l (listed.setIfInBounds i true)
def SS (g:Gh)(T:VT)(w0:World)(bars:List Nat):HS:=λL w=>(∀b∈bars,L.getD b false=false)→Same g T w0 w
theorem CA {g:Gh}{T:VT}{w0:World}{bars:List Nat}{i:Nat}(hi:i∉bars)(listed:Array Bool)(w:World)(h:SS g T w0 bars (listed.setIfInBounds i true) w):SS g T w0 bars listed w:=
 λhb=>h λb hbm=>by
  have hne:i≠b:=by rintro rfl;exact hi hbm
  rw [getD_set_ne false hne];exact hb b hbm
theorem Px {g:Gh}{T:VT}{w0:World}{bars:List Nat}{i:Nat}(hi:i∉bars)(ha:∀b∈bars,anc ops ops.size b i=true)(listed:Array Bool)(w:World)(hc:Closed ops listed)(hu:listed.getD i false=false)
  (h:SS g T w0 bars (listed.setIfInBounds i true) w):Same g T w0 w:=
 h λb hbm=>by
  have hne:i≠b:=by rintro rfl;exact hi hbm
  rw [getD_set_ne false hne]
  cases hq:listed.getD b false with
  |false=>rfl
  |true=>
   have:=nZ hc ops.size b i (ha b hbm) λo ho e he hb=>hc b o ho hq e he hb
   rw [hu] at this;cases this
end
def fT (i:Nat):Nat:=Nat.shiftLeft 1 i
def hU (m i:Nat):Bool:=bif beq (land 1 (Nat.shiftRight m i)) 0 then false else true
def fU:List Edge→Nat
 |[]=>0
 |e::l=>bif binds .any e then lor (fT e.on) (fU l) else fU l
def jN:List Oper→List Nat
 |[]=> []
 |o::l=>fU o.after.toList::jN l
def dP:Nat→List Nat→Nat→List Nat
 |_,[],_=> []
 |i,d::l,m=>bif hU m i then dP (i+1) l m else bif beq (land d m) d then i::dP (i+1) l m else dP (i+1) l m
def jO:List Nat→Nat
 |[]=>0
 |i::l=>lor (fT i) (jO l)
def tp:List Nat→Nat→Nat
 |[],_=>0
 |a::l,k=>match k with
  | 0=>a
  |k+1=>tp l k
def qN (i:Nat)(A:List Nat):List Edge→Nat
 |[]=>0
 |e::l=>bif binds .any e then lor (lor (fT e.on) (tp A (i-1-e.on))) (qN i A l) else qN i A l
def rR:List Oper→Nat→List Nat→List Nat
 |[],_,A=>A
 |o::l,i,A=>rR l (i+1) (qN i A o.after.toList::A)
def LL (n:Nat)(A:List Nat)(i k:Nat):Bool:=hU (tp A (n-1-i)) k
theorem pL (m i:Nat):hU m i=m.testBit i:=by
 unfold hU Nat.testBit
 show (bif beq (1&&&(m>>>i)) 0 then false else true)=_
 cases h:beq (1&&&(m>>>i)) 0 with
 |true=>rw [eq_of_beq_eq_true h];rfl
 |false=>
  have:=ne_of_beq_eq_false h
  exact (bne_iff_ne.2 this).symm
theorem pM (i j:Nat):(fT i).testBit j=decide (i=j):=by
 show (1<<<i).testBit j=_
 rw [Nat.one_shiftLeft,Nat.testBit_two_pow]
theorem mw (a b j:Nat):(lor a b).testBit j=(a.testBit j || b.testBit j):=Nat.testBit_or a b j
theorem kg:∀(l:List Edge) (j:Nat),(fU l).testBit j=true ↔ ∃e∈l,binds .any e=true∧e.on=j
 |[],j=>by simp [fU]
 |e::l,j=>by
  simp only [fU]
  cases hb:binds .any e with
  |true=>
   rw [cond_true,mw,or_eq_true,pM,decide_eq_true_eq,kg l j]
   constructor
   ·rintro (h | ⟨e',h1,h2⟩)
    ·exact ⟨e,List.mem_cons_self,hb,h⟩
    ·exact ⟨e',mem_cons_of_mem _ h1,h2⟩
   ·rintro ⟨e',h1,h2,h3⟩
    rcases mem_cons.1 h1 with rfl | h1
    ·exact .inl h3
    ·exact .inr ⟨e',h1,h2,h3⟩
  |false=>
   rw [cond_false,kg l j]
   constructor
   ·rintro ⟨e',h1,h2⟩;exact ⟨e',mem_cons_of_mem _ h1,h2⟩
   ·rintro ⟨e',h1,h2,h3⟩
    rcases mem_cons.1 h1 with rfl | h1
    ·rw [hb] at h2;cases h2
    ·exact ⟨e',h1,h2,h3⟩
theorem LM (d m:Nat):beq (land d m) d=true ↔ ∀j,d.testBit j=true→m.testBit j=true:=by
 constructor
 ·intro h j hj
  have h1:(d&&&m)=d:=eq_of_beq_eq_true h
  have:=Nat.testBit_and d m j
  rw [h1,hj] at this
  simpa using this.symm
 ·intro h
  have:(d&&&m)=d:=Nat.eq_of_testBit_eq λj=>by
   rw [Nat.testBit_and]
   cases hd:d.testBit j with
   |true=>simp [h j hd]
   |false=>rfl
  show beq (d&&&m) d=true
  rw [this];exact beq_refl d
def MaskOk (n:Nat)(m:Nat)(V:Array Bool):Prop:=V.size=n∧∀i,V.getD i false=m.testBit i
theorem MaskOk.zero (n:Nat):MaskOk n 0 (replicate n false):=by
 refine ⟨by simp,λi=> ?_⟩
 rw [getD_eq_getD_getElem?,Array.getElem?_replicate]
 split<;>simp
theorem MaskOk.set {n m:Nat}{V:Array Bool}(h:MaskOk n m V){i:Nat}(hi:i<n):MaskOk n (lor m (fT i)) (V.setIfInBounds i true):=by
 refine ⟨by simp [h.1],λj=> ?_⟩
 rw [mw,pM,getD_eq_getD_getElem?,Array.getElem?_setIfInBounds]
 by_cases hij:i=j
 ·subst hij
  have:i<V.size:=by rw [h.1];exact hi
  simp [this]
 ·simp only [hij,if_false,decide_false,Bool.or_false]
  rw [←h.2 j,getD_eq_getD_getElem?]
section
variable {ops:Array Oper}
theorem Fu {n m:Nat}{V:Array Bool}(h:MaskOk n m V)(o:Oper):beq (land (fU o.after.toList) m) (fU o.after.toList)=o.after.toList.all λe=> !Region.binds .any e || V.getD e.on false:=by
 rw [Bool.eq_iff_iff,LM]
 simp only [all_eq_true,or_eq_true,Bool.not_eq_true']
 constructor
 ·intro k e he
  cases hb:binds .any e with
  |false=>exact .inl rfl
  |true=>right;rw [h.2];exact k _ ((kg _ _).2 ⟨e,he,hb,rfl⟩)
 ·intro k j hj
  obtain ⟨e,he,hb,rfl⟩:=(kg _ _).1 hj
  rcases k e he with h1 | h1
  ·rw [hb] at h1;cases h1
  ·rw [←h.2];exact h1
theorem Au {m:Nat}:∀(L:List Oper) (k:Nat),dP k (jN L) m=(range' k L.length).filter λi=> !hU m i&&((L[i-k]?).map λo=>beq (land (fU o.after.toList) m) (fU o.after.toList)).getD false
 |[],k=>by simp [dP,jN]
 |o::L,k=>by
  have ih:=Au (m:=m) L (k+1)
  have e1:((range' (k+1) L.length).filter λi=> !hU m i&&(((o::L)[i-k]?).map λo=>beq (land (fU o.after.toList) m) (fU o.after.toList)).getD false)=dP (k+1) (jN L) m:=by
   rw [ih]
   refine List.filter_congr λi hi=> ?_
   have hk:k+1≤i:=by
    obtain ⟨j,hj,rfl⟩:=List.mem_range'.1 hi
    omega
   have e2:i-k=(i-(k+1))+1:=by omega
   rw [e2,List.getElem?_cons_succ]
  rw [List.length_cons,List.range'_succ,List.filter_cons,e1,sub_self,List.getElem?_cons_zero]
  simp only [dP,jN,map_some,getD_some]
  cases hU m k<;>simp
theorem fB {m:Nat}{V:Array Bool}(h:MaskOk ops.size m V):ready .any ops V=dP 0 (jN ops.toList) m:=by
 rw [Au,ready,List.range_eq_range',Array.length_toList]
 refine List.filter_congr λi hi=> ?_
 have hlt:i<ops.size:=by
  obtain ⟨j,hj,rfl⟩:=List.mem_range'.1 hi
  omega
 have h1:V.getD i true=hU m i:=by
  rw [pL,←h.2,getD_eq_getD_getElem?,getD_eq_getD_getElem?]
  have:i<V.size:=by rw [h.1];exact hlt
  simp [this]
 rw [h1,sub_zero]
 congr 1
 rw [getElem?_toList]
 cases ops[i]? with
 |none=>rfl
 |some o=>
  simp only [map_some,getD_some]
  rw [Fu h]
  simp
theorem qA (i:Nat)(A:List Nat):∀(l:List Edge) (k:Nat),(qN i A l).testBit k=true→∃e∈l,binds .any e=true∧(e.on=k∨(tp A (i-1-e.on)).testBit k=true)
 |[],k,h=>by simp [qN] at h
 |e::l,k,h=>by
  simp only [qN] at h
  cases hb:binds .any e with
  |true=>
   rw [hb,cond_true,mw,mw,or_eq_true,or_eq_true,pM,decide_eq_true_eq] at h
   rcases h with h | h
   ·exact ⟨e,List.mem_cons_self,hb,h⟩
   ·obtain ⟨e',h1,h2⟩:=qA i A l k h
    exact ⟨e',mem_cons_of_mem _ h1,h2⟩
  |false=>
   rw [hb,cond_false] at h
   obtain ⟨e',h1,h2⟩:=qA i A l k h
   exact ⟨e',mem_cons_of_mem _ h1,h2⟩
def NT (ops:Array Oper)(j k:Nat):Prop:=∀fuel,j<fuel→anc ops fuel j k=true
theorem CB (hf:gu ops=true):∀(L:List Oper) (i:Nat) (A:List Nat),(∀j o,L[j]?=some o→ops[i+j]?=some o)→A.length=i→(∀j,j<i→∀k,(tp A (i-1-j)).testBit k=true→NT ops j k)→
  ∀j,j<i+L.length→∀k,(tp (rR L i A) (i+L.length-1-j)).testBit k=true→NT ops j k
 |[],i,A,_,_,h,j,hj,k,hk=>h j hj k hk
 |o::L,i,A,hL,hA,h,j,hj,k,hk=>by
  have ho:ops[i]?=some o:=by simpa using hL 0 o rfl
  simp only [rR] at hk
  have e1:i+(o::L).length=(i+1)+L.length:=by simp;omega
  rw [e1] at hk hj
  refine CB hf L (i+1) _ (λj o' h'=> ?_) (by simp [hA]) (λj hj k hk=> ?_) j hj k hk
  ·have:=hL (j+1) o' (by simpa using h')
   rw [←this];congr 1;omega
  ·by_cases hji:j=i
   ·subst hji
    rw [show j+1-1-j=0 by omega] at hk
    simp only [tp] at hk
    obtain ⟨e,he,hb,h2⟩:=qA j A _ k hk
    have hlt:=(fM hf ho).1 e (mem_toList_iff.1 he) hb
    intro fuel hfu
    cases fuel with
    |zero=>omega
    |succ f=>
     simp only [anc,ho,or_eq_true]
     rcases h2 with h2 | h2
     ·left
      exact any_eq_true.2 ⟨e,he,by rw [hb,h2,beq_refl];rfl⟩
     ·right
      exact any_eq_true.2 ⟨e,he,by rw [hb,h e.on hlt k h2 f (by omega)];rfl⟩
   ·have hji':j<i:=by omega
    rw [show i+1-1-j=(i-1-j)+1 by omega] at hk
    simp only [tp] at hk
    exact h j hji' k hk
theorem Py (hf:gu ops=true){i k:Nat}(hi:i<ops.size)(h:LL ops.size (rR ops.toList 0 []) i k=true):anc ops ops.size i k=true:=by
 unfold LL at h
 rw [pL] at h
 have h2:=CB hf ops.toList 0 [] (λj o h=>by rw [zero_add,←getElem?_toList];exact h) rfl (λj hj=>absurd hj (Nat.not_lt_zero j)) i (by simpa using hi) k (by simpa using h)
 exact h2 _ hi
end
def I6 (P:Program):Op→Bool
 | .typeAssert .. | .move _ | .assign _ | .pick .. | .binOp .. | .unOp .. | .field .. | .fieldAddr .. | .indexAddr .. | .index .. | .slice .. | .extract .. | .build .. | .makeFunc .. | .makeInterface .. | .nilCheck _ | .sliceToArrayPointer .. =>true
 | .convert s d _=>match P.underlying s,P.underlying d with
  |some (.slice _),_=>false
  |_,some (.slice _)=>false
  |_,_=>true
 |_=>false
def isRead (P:Program):Op→Bool
 | .load .. | .lookup .. =>true
 | .convert s d _=>match P.underlying s,P.underlying d with
  |some (.slice _),some .string=>true
  |_,_=>false
 | .call c=>match c.callee with
  | .builtin .len | .builtin .cap | .builtin .min | .builtin .max=>true
  |_=>false
 |_=>false
def wa (q:Op→Bool)(ops:Array Oper)(listed:Array Bool):List Nat→Option Nat
 |[]=>none
 |i::l=>cond (match ops[i]? with | some o=>q o.op&&free .any ops listed i | none=>false) (some i) (wa q ops listed l)
def oM (P:Program)(ops:Array Oper):Nat→Array Bool→List Nat→Option (List (Nat × PK))
 | 0,_,_=>some []
 |n+1,listed,pend=>match ready .any ops listed with
  |[]=>some []
  |r=>match wa (I6 P) ops listed r with
   |some i=>(oM P ops n (listed.setIfInBounds i true) pend).map ((i,.pk0):: ·)
   |none=>match wa (isRead P) ops listed r with
    |some i=>(oM P ops n (listed.setIfInBounds i true) (i::pend)).map ((i,.pk1):: ·)
    |none=>match r with
     |[i]=>cond (pend.all λj=>anc ops ops.size i j) ((oM P ops n (listed.setIfInBounds i true) []).map ((i,.pk3):: ·)) (match ops[i]? with
      |some ⟨_,.store ..,_,_,_,_⟩=>none
      |_=>(oM P ops n (listed.setIfInBounds i true) pend).map ((i,.pk2):: ·))
     |_=>none
def iW (ops:Array Oper):List (Nat × PK)→List (Oper × PK)
 |[]=> []
 | (i,k)::l=>match ops[i]? with
  |some o=>(o,k)::iW ops l
  |none=>iW ops l
def my (P:Program)(ops:Array Oper):Option (List (Oper × PK)):=match oM P ops ops.size (replicate ops.size false) [] with
 |some p=>cond (noSelect ops&&beq p.length ops.size&&ov ops p (replicate ops.size false)) (some (iW ops p)) none
 |none=>none
def CC (ops:Array Oper):Bool:=ops.toList.all λo=>di o.op
inductive FK where
 |own
 |turn (pend:List Nat)
 |bar
 |late
 |box (j:Nat)
 |put (pend:List Nat)
def Pz:Op→Bool
 | .store .. =>true
 |_=>false
def CD:List Nat→List Nat→Bool
 |[],[]=>true
 |a::l,b::m=>beq a b&&CD l m
 |_,_=>false
def isMkA:Op→Bool
 | .buildSlice .. =>true
 |_=>false
def Wa (P:Program)(op:Op):Bool:=I6 P op || isRead P op || isMkA op
def iX (P:Program)(T:VT):Op→Option (TV × VT)
 | .alloc t=>ni P T t
 | .makeMap t none=>mu P T t none
 | .makeSlice t (.const a) (.const b)=>oK P T t (.val a) (.val b)
 |_=>none
def qO (P:Program)(o:Oper):Bool:=(iX P ⟨[],[]⟩ o.op).isSome&&o.guard.isNone&&o.dst.isSome&&di o.op
def ow (P:Program)(op opj:Op)(ev:Operand→TV):Option (List TV):=match op,opj with
 | .alloc t,.store _ _ x=>match P.info? t,b6 (ev x) with
  |some i,some new=>bif beq i.size new.length&&new.all g7 then some new else none
  |_,_=>none
 |_,_=>none
def I7 (P:Program)(T:VT)(op opj:Op)(ev:Operand→TV):Option (TV × VT):=(ow P op opj ev).map λnew=>(.ptr T.objs.length 0,{T with objs:=T.objs++ [.cells new]})
def qP (P:Program)(o oj:Oper):Bool:=match o.dst,o.op,oj.op with
 |some d,.alloc t,.store t' (.tmp d') x=>beq d d' &&beq t t' &&oj.guard.isNone&&oj.dst.isNone&&(match x with
   | .tmp e=> !(beq e d)
   |_=>true)&&(match P.info? t with
   |some i=>match i.zero with
    |some z=>beq z.cells.size i.size
    |none=>false
   |none=>false)
 |_,_,_=>false
def Fv (P:Program)(ops:Array Oper)(o:Oper):List Nat→Option Nat
 |[]=>none
 |j::l=>cond (match ops[j]? with | some oj=>qP P o oj | none=>false) (some j) (Fv P ops o l)
def qQ (P:Program)(ops:Array Oper):List Nat→List (Nat × Option Nat)
 |[]=> []
 |i::l=>match ops[i]? with
  |some o=>cond (qO P o) ((i,Fv P ops o (List.range ops.size))::qQ P ops l) (qQ P ops l)
  |none=>qQ P ops l
def cO:List (Nat × Option Nat)→List Nat
 |[]=> []
 | (i,none)::l=>i::cO l
 | (i,some j)::l=>i::j::cO l
def fV:List Nat→Array Bool→Array Bool
 |[],V=>V
 |i::l,V=>fV l (V.setIfInBounds i true)
def qR (ops:Array Oper)(V:Array Bool)(j:Nat):Bool:=match ops[j]? with
 |some o=>o.after.toList.all λe=> !Region.binds .any e || V.getD e.on false
 |none=>false
def boxStore (flo:List (Nat × Option Nat))(k:Nat):Bool:=flo.any λp=>match p.2 with
 |some j=>beq j k
 |none=>false
def uR (ops:Array Oper)(flo:List (Nat × Option Nat))(V:Array Bool)(j:Nat):Bool:=match ops[j]? with
 |some o=>o.after.toList.all λe=> !Region.binds .any e || V.getD e.on false || boxStore flo e.on
 |none=>false
def Fw (P:Program)(ops:Array Oper):List Nat→Option Nat
 |[]=>none
 |i::l=>cond (match ops[i]? with | some o=>Wa P o.op | none=>false) (some i) (Fw P ops l)
def tq (ops:Array Oper):Bool:=(List.range ops.size).all λi=>match ops[i]? with
 |some o=>match o.dst with
  |some d=> !(inList (o.looksAt ops) d)&&(List.range ops.size).all λj=>beq j i || match ops[j]? with
   |some oj=>(match oj.dst with
     |some d'=> !(beq d' d)
     |none=>true)&&(!(inList (oj.looksAt ops) d) || oj.after.toList.any λe=>binds .any e&&beq e.on i)
   |none=>true
  |none=>true
 |none=>true
def kQ (i:Nat):List Nat→List Nat
 |[]=> []
 |k::l=>bif beq k i then kQ i l else k::kQ i l
def cF (P:Program)(ops:Array Oper)(flo:List (Nat × Option Nat))(F:List Nat):List (Nat × FK)→Array Bool→List Nat→Bool
 |[],V,_=>(ready .any ops V).isEmpty
 | (i,.own)::l,V,pend=>inList (ready .any ops V) i&& !(inList F i)&&(match ops[i]? with | some o=>di o.op | none=>false)&&cF P ops flo F l (V.setIfInBounds i true) (match ops[i]? with | some o=>bif isRead P o.op then i::pend else pend | none=>pend)
 | (i,.turn pe)::l,V,pend=>CD pe pend&&inList (ready .any ops V) i&& !(inList F i)&&((ready .any ops (fV F V)).all λk=>beq k i || inList F k)&&cF P ops flo F l (V.setIfInBounds i true) pend
 | (i,.put pe)::l,V,pend=>CD pe pend&&inList (ready .any ops V) i&& !(inList F i)&&((ready .any ops (fV F V)).all λk=>beq k i || inList F k)&&cF P ops flo F l (V.setIfInBounds i true) pend
 | (i,.bar)::l,V,pend=>inList (ready .any ops V) i&& !(inList F i)&&((ready .any ops (fV F V)).all λk=>beq k i || inList F k)&&(pend.all λk=>anc ops ops.size i k)&&cF P ops flo F l (V.setIfInBounds i true) []
 | (i,.late)::l,V,pend=>(flo.any λp=>beq p.1 i&&p.2.isNone)&&inList (ready .any ops V) i&&((ready .any ops (fV (kQ i F) V)).all λk=>inList F k)&&cF P ops flo F l (V.setIfInBounds i true) pend
 | (i,.box j)::l,V,pend=>(flo.any λp=>beq p.1 i&&match p.2 with | some j'=>beq j' j | none=>false)&&inList (ready .any ops V) i&&qR ops (V.setIfInBounds i true) j&&((ready .any ops (fV (kQ j F) V)).all λk=>inList F k)&&cF P ops flo F l ((V.setIfInBounds i true).setIfInBounds j true) pend
def I8 (P:Program)(ops:Array Oper)(flo:List (Nat × Option Nat))(F:List Nat):Bool:=flo.all λp=>match ops[p.1]? with
 |some o=>qO P o&&(match p.2 with
  |none=>true
  |some j=>match ops[j]? with
   |some oj=>qP P o oj&&(oj.after.toList.any λe=>binds .any e&&beq e.on p.1)&&(oj.after.toList.all λe=> !Region.binds .any e || beq e.on p.1 || !(inList F e.on) || boxStore flo e.on)
   |none=>false)
 |none=>false
def xi:List Nat→Bool
 |[]=>true
 |i::l=> !(inList l i)&&xi l
def uS (D:List Nat)(m j:Nat):Bool:=match D[j]? with
 |some d=>beq (land d m) d
 |none=>false
def tr (D:List Nat)(m:Nat)(r:List Nat):List (Nat × Option Nat)→Option (Nat × Option Nat)
 |[]=>none
 | (i,none)::l=>cond (inList r i) (some (i,none)) (tr D m r l)
 | (i,some j)::l=>cond (inList r i&&uS D (lor m (fT i)) j) (some (i,some j)) (tr D m r l)
def G7 (FM:Nat):List Nat→List Nat
 |[]=> []
 |i::l=>bif hU FM i then G7 FM l else i::G7 FM l
def qS (n:Nat)(A:List Nat)(i:Nat):List Nat→Bool
 |[]=>true
 |k::l=>LL n A i k&&qS n A i l
def I9 (P:Program)(ops:Array Oper)(i:Nat)(pend:List Nat):List Nat:=match ops[i]? with
 |some o=>bif isRead P o.op then i::pend else pend
 |none=>pend
def oN (P:Program)(ops:Array Oper)(D A:List Nat)(flo:List (Nat × Option Nat))(FM:Nat):Nat→Nat→List Nat→List (Nat × FK)
 | 0,_,_=> []
 |n+1,m,pend=>match dP 0 D m with
  |[]=> []
  |r=>match Fw P ops r with
   |some i=>(i,.own)::oN P ops D A flo FM n (lor m (fT i)) (I9 P ops i pend)
   |none=>match G7 FM r with
    |[i]=>bif qS ops.size A i pend then (i,.bar)::oN P ops D A flo FM n (lor m (fT i)) [] else (i,match ops[i]? with | some o=>bif Pz o.op then .put pend else .turn pend | none=>.turn pend)::oN P ops D A flo FM n (lor m (fT i)) pend
    |[]=>match tr D m r flo with
     |some (i,none)=>(i,.late)::oN P ops D A flo FM n (lor m (fT i)) pend
     |some (i,some j)=>(i,.box j)::oN P ops D A flo FM n (lor (lor m (fT i)) (fT j)) pend
     |none=> []
    |_=> []
def dC (P:Program)(ops:Array Oper)(D A:List Nat)(flo:List (Nat × Option Nat))(F:List Nat):List (Nat × FK)→Nat→List Nat→Bool
 |[],m,_=>(dP 0 D m).isEmpty
 | (i,.own)::l,m,pend=>inList (dP 0 D m) i&& !(inList F i)&&(match ops[i]? with | some o=>di o.op | none=>false)&&dC P ops D A flo F l (lor m (fT i)) (I9 P ops i pend)
 | (i,.turn pe)::l,m,pend=>CD pe pend&&inList (dP 0 D m) i&& !(inList F i)&&((dP 0 D (lor m (jO F))).all λk=>beq k i || inList F k)&&dC P ops D A flo F l (lor m (fT i)) pend
 | (i,.put pe)::l,m,pend=>CD pe pend&&inList (dP 0 D m) i&& !(inList F i)&&((dP 0 D (lor m (jO F))).all λk=>beq k i || inList F k)&&dC P ops D A flo F l (lor m (fT i)) pend
 | (i,.bar)::l,m,pend=>inList (dP 0 D m) i&& !(inList F i)&&((dP 0 D (lor m (jO F))).all λk=>beq k i || inList F k)&&qS ops.size A i pend&&dC P ops D A flo F l (lor m (fT i)) []
 | (i,.late)::l,m,pend=>(flo.any λp=>beq p.1 i&&p.2.isNone)&&inList (dP 0 D m) i&&((dP 0 D (lor m (jO (kQ i F)))).all λk=>inList F k)&&dC P ops D A flo F l (lor m (fT i)) pend
 | (i,.box j)::l,m,pend=>(flo.any λp=>beq p.1 i&&match p.2 with | some j'=>beq j' j | none=>false)&&inList (dP 0 D m) i&&uS D (lor m (fT i)) j&&((dP 0 D (lor m (jO (kQ j F)))).all λk=>inList F k)&&dC P ops D A flo F l (lor (lor m (fT i)) (fT j)) pend
def gI:Nat→List Oper→List (Nat × Nat)
 |_,[]=> []
 |i,o::l=>match o.dst with
  |some d=>(d,i)::gI (i+1) l
  |none=>gI (i+1) l
def tu:List (Nat × Nat)→Nat→Option Nat
 |[],_=>none
 |p::l,s=>bif beq p.1 s then some p.2 else tu l s
def rS:List (Nat × Nat)→Nat→Bool
 |[],_=>true
 |p::l,m=>bif hU m p.1 then false else rS l (lor m (fT p.1))
def qT (W:List (Nat × Nat))(d:Nat):List Nat→Bool
 |[]=>true
 |s::l=>(match tu W s with
  |some i=>hU d i
  |none=>true)&&qT W d l
def xj (ops:Array Oper)(W:List (Nat × Nat)):List Oper→Bool
 |[]=>true
 |o::l=>qT W (fU o.after.toList) (o.looksAt ops)&&xj ops W l
def G8 (ops:Array Oper):Bool:=rS (gI 0 ops.toList) 0&&xj ops (gI 0 ops.toList) ops.toList
def xk (n:Nat):List Nat→Bool
 |[]=>true
 |i::l=>ble (i+1) n&&xk n l
def Fx (P:Program)(ops:Array Oper)(D A:List Nat)(flo:List (Nat × Option Nat))(F:List Nat):Option (List (Nat × FK)):=
 cond (noSelect ops&&gu ops&&G8 ops&&xi F&&xk ops.size F&&I8 P ops flo F
  &&dC P ops D A flo F (oN P ops D A flo (jO F) ops.size 0 []) 0 [])
  (some (oN P ops D A flo (jO F) ops.size 0 [])) none
def tw (P:Program)(ops:Array Oper)(flo:List (Nat × Option Nat)):Option (List (Nat × FK)):=Fx P ops (jN ops.toList) (rR ops.toList 0 []) flo (cO flo)
def NU:List (Nat × Option Nat)→List (Nat × Option Nat)
 |[]=> []
 |p::l=>(p.1,none)::NU l
def zf (P:Program)(ops:Array Oper):List (Nat × Option Nat):=bif (tw P ops (qQ P ops (List.range ops.size))).isSome then qQ P ops (List.range ops.size) else NU (qQ P ops (List.range ops.size))
def mA (P:Program)(ops:Array Oper):Option (List (Nat × FK)):=tw P ops (zf P ops)
def pN (L:List Nat):Nat→List TV→List TV
 |_,[]=> []
 |s,x::l=>(bif inList L s then x else .dead)::pN L (s+1) l
def only (ops:Array Oper)(o:Oper)(σ:List TV):List TV:=pN (o.looksAt ops) 0 σ
def uT (o:Oper)(s:List TV):TV:=match o.dst with
 |some d=>s.getD d .dead
 |none=>.dead
def cP (ops:Array Oper)(σ:List TV)(o:Oper):Option Bool:=match o.guard with
 |none=>some true
 |some (j,want)=>match Ck ops σ j with
  |some (some b)=>some (bif want then b else !b)
  |some none=>some false
  |none=>none
theorem LN {ops:Array Oper}{σ:List TV}{o:Oper}{b:Bool}(h:cP ops σ o=some b):uK ops σ o=some b:=by
 unfold cP at h
 unfold uK
 split at h
 ·rename_i hg;rw [hg];exact h
 ·rename_i j want hg
  rw [hg]
  simp only
  split at h
  ·rename_i c hc;rw [hc];injection h with h;subst h;cases c<;>cases want<;>rfl
  ·rename_i hc;rw [hc];injection h with h;subst h;rfl
  ·cases h
def ju (ops:Array Oper)(o:Oper)(σ:List TV)(X:List TV→Prop):Prop:=match o.guard with
 |none=>X σ
 |some (j,_)=>match (ops[j]?).bind (·.dst) with
  |none=>X σ
  |some d=>match σ.getD d .dead with
   | .val (.bool b)=>cond b (X (σ.set d (.val (.bool true)))) (X (σ.set d (.val (.bool false))))
   |_=>X σ
theorem gz {ops:Array Oper}{o:Oper}{σ:List TV}{X:List TV→Prop}(h:ju ops o σ X):X σ:=by
 unfold ju at h
 split at h
 ·exact h
 ·split at h
  ·exact h
  ·rename_i d _
   split at h
   ·rename_i b hb
    have key:σ.set d (.val (.bool b))=σ:=by
     apply ext_getElem?
     intro i
     rw [getElem?_set]
     split
     ·rename_i e;subst e
      rw [List.getD_eq_getElem?_getD] at hb
      split
      ·rename_i hl
       rw [List.getElem?_eq_getElem hl] at hb ⊢
       simpa using hb.symm
      ·rename_i hl;rw [List.getElem?_eq_none (by omega)]
     ·rfl
    cases b with
    |true=>rw [key] at h;exact h
    |false=>rw [key] at h;exact h
   ·exact h
def aR (_:Nat)(_:Op)(_:List TV):Prop:=False
def G9 (P:Program)(ro:Nat)(T:VT)(f:FuncId)(xs:List TV):Option (TV × VT):=match P.funcs[f]? with
 |some fn=>bif fn.body.isNone then LA P ro T fn xs else none
 |none=>none
def iI (σ:List TV):List Operand→List (Nat × TV)
 |[]=> []
 | .tmp t::l=>(t,σ.getD t .dead)::iI σ l
 |_::l=>iI σ l
def dT:List (Nat × TV)→Nat→TV
 |[],_=>.dead
 | (t,x)::l,s=>bif beq t s then x else dT l s
def aL (G:aV)(l:List (Nat × TV)):Operand→TV
 | .tmp t=>dT l t
 |x=>bt G [] x
abbrev ki:=Oper→List TV→VT→Option (TV × Option VT)
def aM:ki:=λ_ _ _=>none
def xm (P:Program)(T0:VT)(ph:Bool)(op:Op)(ev:Operand→TV):Option TV:=match bu P op ev with
 |some x=>some x
 |none=>bif ph then Ct P T0 op ev else bs P T0 op ev
inductive ba (P:Program) (G:aV) (op:Op) (l:List (Nat × TV)) (y:TV):Prop
 |mk (h:bu P op (aL G l)=some y)
inductive Wb (P:Program) (G:aV) (T0:VT) (ph:Bool) (op:Op) (l:List (Nat × TV)) (y:TV):Prop
 |mk (h:xm P T0 ph op (aL G l)=some y)
inductive br (P:Program) (G:aV) (ro:Nat) (T:VT) (op:Op) (l:List (Nat × TV)) (y:TV) (T':VT):Prop
 |mk (h:gH P ro T op (aL G l)=some (y,T'))
 |old (hf:pJ ro op (aL G l)=true) (h:vC P T op (aL G l)=some (y,T'))
 |ent (it:Operand) (ho:op=.entry it) (ht:T'=T) (h:xg T (aL G l it)=some y)
inductive By (P:Program) (T0:VT) (s d:TypeId) (x y:TV):Prop
 |mk (h0:ea x=none) (h:g9 P T0 s d x=some y)
inductive Wc (P:Program) (T0:VT) (t:TypeId) (m k:TV) (ok:Bool) (y:TV):Prop
 |mk (h:hJ P T0 t m k ok=some y)
abbrev jP:=Nat→FuncId→List TV→VT→(TV→VT→Prop)→Prop
abbrev lI:=Nat→Nat→List TV→VT→(TV→VT→Prop)→Prop
section
variable (P:Program)(G:aV)(F:ki)(call:jP)(rnd:lI)
def LO (ro:Nat)(o:Oper)(σ:List TV)(T:VT)(K:List TV→VT→Prop):Prop:=match o.op with
 | .next it false=>match Cz T (bt G σ it) with
  |some (i,l)=>cond (ble ro i) (G4 (λp=>K (bR σ o.dst p.1) p.2) l) (aR 3 o.op [])
  |none=>aR 2 o.op [bt G σ it]
 | .entry it=>match xg T (bt G σ it) with
  |some y=>K (bR σ o.dst y) T
  |none=>aR 2 o.op [bt G σ it]
 | .range t x=>match Cy P T t (bt G σ x) with
  |some (y,T')=>K (bR σ o.dst y) T'
  |none=>aR 2 o.op [bt G σ x]
 | .binOp op t x y ty=>cond (Bx P op t (bt G σ x) (bt G σ y)) (K (bR σ o.dst (.val (.bool true))) T∧K (bR σ o.dst (.val (.bool false))) T) (match gH P ro T (.binOp op t x y ty) (bt G σ) with
  |some (y,T')=>K (bR σ o.dst y) T'
  |none=>aR 2 o.op [bt G σ x,bt G σ y])
 |op=>match gH P ro T op (bt G σ) with
  |some (y,T')=>K (bR σ o.dst y) T'
  |none=>aR 2 op (op.operands.toList.map (bt G σ))
def LP (ro:Nat)(o:Oper)(σ:List TV)(T:VT)(K:List TV→VT→Prop):Prop:=match F o (o.op.operands.toList.map (bt G σ)) T with
 |some (y,none)=>ba P G o.op (iI σ o.op.operands.toList) y∧K (bR σ o.dst y) T
 |some (y,some T')=>br P G ro T o.op (iI σ o.op.operands.toList) y T'∧K (bR σ o.dst y) T'
 |none=>LO P G ro o σ T K
def rU (ro:Nat)(o:Oper)(σ:List TV)(T:VT)(K:List TV→VT→Prop):Prop:=match o.op with
 | .call ⟨.value fo,args,_⟩=>match bt G σ fo with
  | .fn (.func f) fi ca=>match G9 P ro T f (fi++args.toList.map (bt G σ)++ca) with
   |some (y,T')=>K (bR σ o.dst y) T'
   |none=>call ro f (fi++args.toList.map (bt G σ)++ca) T λx T'=>K (bR σ o.dst x) T'
  | .yld id=>rnd ro id (args.toList.map (bt G σ)) T λx T'=>K (bR σ o.dst x) T'
  |x=>aR 1 o.op [x]
 |_=>LP P G F ro o σ T K
def wb (ro:Nat)(ops:Array Oper):List Oper→List TV→VT→(List TV→VT→Prop)→Prop
 |[],σ,T,K=>K σ T
 |o::l,σ,T,K=>ju ops o σ λσ=>match cP ops σ o with
  |some b=>cond b (rU P G F call rnd ro o σ T λσ' T'=>wb ro ops l σ' T' K) (wb ro ops l (bR σ o.dst (.val undef)) T K)
  |none=>aR 4 o.op []
def ft (ro:Nat)(ops:Array Oper):VT→Bool→List (Oper × PK)→List TV→VT→(List TV→VT→Prop)→Prop
 |_,_,[],σ,T,K=>K σ T
 |T0,ph,(o,.pk0)::l,σ,T,K=>ju ops o σ λσ=>match cP ops σ o with
  |some b=>cond b (match F o (o.op.operands.toList.map (bt G σ)) T with
   |some (y,none)=>ba P G o.op (iI σ o.op.operands.toList) y∧ft ro ops T0 ph l (bR σ o.dst y) T K
   |some (_,some _)=>aR 27 o.op []
   |none=>match bu P o.op (bt G σ) with
    |some x=>ft ro ops T0 ph l (bR σ o.dst x) T K
    |none=>aR 5 o.op (o.op.operands.toList.map (bt G σ))) (ft ro ops T0 ph l (bR σ o.dst (.val undef)) T K)
  |none=>aR 4 o.op []
 |T0,ph,(o,.pk1)::l,σ,T,K=>ju ops o σ λσ=>match cP ops σ o with
  |some b=>cond b (match F o (o.op.operands.toList.map (bt G σ)) T with
   |some (y,none)=>Wb P G T0 ph o.op (iI σ o.op.operands.toList) y∧ft ro ops T0 ph l (bR σ o.dst y) T K
   |some (_,some _)=>aR 27 o.op []
   |none=>match xm P T0 ph o.op (bt G σ) with
    |some x=>ft ro ops T0 ph l (bR σ o.dst x) T K
    |none=>aR 5 o.op (o.op.operands.toList.map (bt G σ))) (ft ro ops T0 ph l (bR σ o.dst (.val undef)) T K)
  |none=>aR 4 o.op []
 |T0,_,(o,.pk2)::l,σ,T,K=>ju ops o σ λσ=>match cP ops σ o with
  |some b=>cond b (rU P G F call rnd T0.objs.length o σ T λσ' T'=>ft ro ops T0 true l σ' T' K) (ft ro ops T0 true l (bR σ o.dst (.val undef)) T K)
  |none=>aR 4 o.op []
 |_,_,(o,.pk3)::l,σ,T,K=>ju ops o σ λσ=>match cP ops σ o with
  |some b=>cond b (rU P G F call rnd ro o σ T λσ' T'=>ft ro ops T' false l σ' T' K) (ft ro ops T false l (bR σ o.dst (.val undef)) T K)
  |none=>aR 4 o.op []
def xp (P:Program)(ro:Nat)(T:VT)(t:TypeId)(a x:TV):Option VT:=match qM P ro T t a x with
 |some (_,T')=>some T'
 |none=>match a with
  | .ptr id off=>bif ble ro id then (lE P T t (.ptr id off) x).map (·.2) else none
  |_=>none
def apartRead (P:Program)(id off n:Nat)(op:Op)(ev:Operand→TV):Bool:=match op with
 | .load t a=>match ev a with
  | .ptr id' off'=> !(beq id' id) || (match P.info? t with
   |some i=>ble (off' +max i.size 1) off || ble (off+n) off'
   |none=>false)
  | .elt _=>true
  |_=>false
 | .lookup _ m _ _=>match ev m with
  | .map id'=> !(beq id' id)
  |_=>false
 | .call c=>match c.callee,c.args.toList with
  | .builtin .len,[x]=>(match ev x with
   | .map id'=> !(beq id' id)
   |_=>false)
  |_,_=>false
 |_=>false
def VT.takeO (T:VT)(n:Nat):VT:={T with objs:=T.objs.take n}
def Ha (P:Program)(G:aV)(T0:VT)(o:Oper)(s:List TV)(y:TV):Prop:=match o.op with
 | .convert t d x=>bif isRead P (.convert t d x) then By P T0 t d (bt G s x) y else ba P G o.op (iI s o.op.operands.toList) y
 | .lookup t m k ok=>Wc P T0 t (bt G s m) (bt G s k) ok y
 |_=>ba P G o.op (iI s o.op.operands.toList) y
def Hb (P:Program)(T0:VT)(op:Op)(ev:Operand→TV):Option TV:=match bu P op ev with
 |some x=>some x
 |none=>match (bif isRead P op then bs P T0 op ev else none) with
  |some x=>some x
  |none=>match op with
   | .buildSlice t n ps=>(kE P ⟨[],[]⟩ (.buildSlice t n ps) ev).map (·.1)
   |_=>none
def dM (ops:Array Oper)(flo:List (Nat × Option Nat))(V:Array Bool)(σ:List TV):List (Nat × Option Nat)→Bool
 |[]=>true
 | (_,none)::l=>dM ops flo V σ l
 | (i,some j)::l=>(V.getD i false || !(uR ops flo (V.setIfInBounds i true) j) || (match ops[i]?,ops[j]? with
  |some o,some oj=>(ow P o.op oj.op (bt G (only ops oj σ))).isSome&&(match o.dst with
   |some d=>ble (d+1) σ.length
   |none=>false)
  |_,_=>false))&&dM ops flo V σ l
def pO (ops:Array Oper)(id off n:Nat)(σ:List TV):List Nat→Bool
 |[]=>true
 |k::l=>(match ops[k]? with
  |some o=>(match cP ops (only ops o σ) o with
   |some true=>(bu P o.op (bt G (only ops o σ))).isSome || apartRead P id off n o.op (bt G (only ops o σ))
   |some false=>true
   |none=>false)
  |none=>false)&&pO ops id off n σ l
def rV (ops:Array Oper)(T0 T1:VT)(σ:List TV):List Nat→Bool
 |[]=>true
 |k::l=>(match ops[k]? with
  |some o=>(match cP ops (only ops o σ) o with
   |some true=>(bu P o.op (bt G (only ops o σ))).isSome || (match bs P T0 o.op (bt G (only ops o σ)),bs P T1 o.op (bt G (only ops o σ)) with
    |some x,some y=>jt x y
    |none,_=>true
    |_,none=>false)
   |some false=>true
   |none=>false)
  |none=>false)&&rV ops T0 T1 σ l
def rW (ops:Array Oper)(T0 T1:VT)(σ:List TV):List Nat→Prop
 |[]=>True
 |k::l=>(match ops[k]? with
  |some o=>(match cP ops (only ops o σ) o with
   |some true=>cond (bu P o.op (bt G (only ops o σ))).isSome True (bs P T0 o.op (bt G (only ops o σ))=bs P T1 o.op (bt G (only ops o σ)))
   |some false=>True
   |none=>False)
  |none=>False)∧rW ops T0 T1 σ l
def Xq:Bool:=(F ⟨some 999998,.move (.tmp 0),0, "",#[],none⟩ [] ⟨[],[]⟩).isSome
def dp (ro:Nat)(ops:Array Oper)(flo:List (Nat × Option Nat)):Array Bool→VT→List (Nat × FK)→List TV→VT→(List TV→VT→Prop)→Prop
 |_,_,[],σ,T,K=>K σ T
 |V,T0,(i,.own)::l,σ,T,K=>match ops[i]? with
  |some o=>ju ops o σ λσ=>match cP ops (only ops o σ) o with
   |some b=>cond b (match F o (o.op.operands.toList.map (bt G σ)) T with
    |some (y,none)=>Ha P G T0 o (only ops o σ) y∧dp ro ops flo (V.setIfInBounds i true) T0 l (bR σ o.dst y) T K
    |some (_,some _)=>aR 27 o.op []
    |none=>match Hb P T0 o.op (bt G (only ops o σ)) with
     |some y=>dp ro ops flo (V.setIfInBounds i true) T0 l (bR σ o.dst y) T K
     |none=>aR 5 o.op (o.op.operands.toList.map (bt G σ))) (dp ro ops flo (V.setIfInBounds i true) T0 l (bR σ o.dst (.val undef)) T K)
   |none=>aR 4 o.op []
  |none=>aR 4 default []
 |V,T0,(i,.turn pe)::l,σ,T,K=>match ops[i]? with
  |some o=>ju ops o σ λσ=>match cP ops (only ops o σ) o with
   |some b=>cond (dM P G ops flo V σ flo) (cond b (rU P G F call rnd ro o (only ops o σ) T λs T'=>cond (Xq F) (rW P G ops T0 (T'.takeO T0.objs.length) σ pe∧dp ro ops flo (V.setIfInBounds i true) (T'.takeO T0.objs.length) l (bR σ o.dst (uT o s)) T' K) (cond (rV P G ops T0 (T'.takeO T0.objs.length) σ pe) (dp ro ops flo (V.setIfInBounds i true) (T'.takeO T0.objs.length) l (bR σ o.dst (uT o s)) T' K) (aR 30 o.op []))) (dp ro ops flo (V.setIfInBounds i true) (T.takeO T0.objs.length) l (bR σ o.dst (.val undef)) T K)) (aR 28 o.op [])
   |none=>aR 4 o.op []
  |none=>aR 4 default []
 |V,T0,(i,.put pe)::l,σ,T,K=>match ops[i]? with
  |some o=>ju ops o σ λσ=>match cP ops (only ops o σ) o with
   |some b=>cond (dM P G ops flo V σ flo) (cond b (match o.op with
    | .store t a x=>(match bt G (only ops o σ) a,b6 (bt G (only ops o σ) x) with
     | .ptr id off,some new=>(match xp P ro T t (.ptr id off) (bt G (only ops o σ) x) with
      |some T'=>cond (pO P G ops id off new.length σ pe) (dp ro ops flo (V.setIfInBounds i true) (T'.takeO T0.objs.length) l (bR σ o.dst (uT o (bR (only ops o σ) o.dst (.val undef)))) T' K) (aR 29 o.op [bt G σ a])
      |none=>aR 2 o.op [bt G σ a,bt G σ x])
     |_,_=>aR 2 o.op [bt G σ a,bt G σ x])
    |_=>aR 4 o.op []) (dp ro ops flo (V.setIfInBounds i true) (T.takeO T0.objs.length) l (bR σ o.dst (.val undef)) T K)) (aR 28 o.op [])
   |none=>aR 4 o.op []
  |none=>aR 4 default []
 |V,_,(i,.bar)::l,σ,T,K=>match ops[i]? with
  |some o=>ju ops o σ λσ=>match cP ops (only ops o σ) o with
   |some b=>cond (dM P G ops flo V σ flo) (cond b (rU P G F call rnd ro o (only ops o σ) T λs T'=>dp ro ops flo (V.setIfInBounds i true) T' l (bR σ o.dst (uT o s)) T' K) (dp ro ops flo (V.setIfInBounds i true) T l (bR σ o.dst (.val undef)) T K)) (aR 28 o.op [])
   |none=>aR 4 o.op []
  |none=>aR 4 default []
 |V,T0,(i,.late)::l,σ,T,K=>match ops[i]? with
  |some o=>match iX P T o.op with
   |some (y,T')=>cond (dM P G ops flo V σ flo) (dp ro ops flo (V.setIfInBounds i true) T0 l (bR σ o.dst y) T' K) (aR 28 o.op [])
   |none=>aR 2 o.op []
  |none=>aR 4 default []
 |V,T0,(i,.box j)::l,σ,T,K=>match ops[i]?,ops[j]? with
  |some o,some oj=>match I7 P T o.op oj.op (bt G (only ops oj σ)) with
   |some (y,T')=>cond (dM P G ops flo V σ flo) (dp ro ops flo ((V.setIfInBounds i true).setIfInBounds j true) T0 l (bR σ o.dst y) T' K) (aR 28 o.op [])
   |none=>aR 2 o.op []
  |_,_=>aR 4 default []
def Hc:List (Oper × PK)→Bool
 |[]=>false
 | (_,.pk2)::_=>true
 |_::l=>Hc l
def zg (ops:Array Oper):Option (List (Oper × PK)):=match my P ops with
 |some p=>cond (Hc p&&(mA P ops).isSome) none (some p)
 |none=>none
def zh (ops:Array Oper):Option (List (Oper × PK)):=bif (F ⟨some 999999,.move (.tmp 0),0, "",#[],none⟩ [] ⟨[],[]⟩).isSome then my P ops else bif ble ops.size 12 then zg P ops else none
def uU (ops:Array Oper)(t:Oper):Bool:=t.guard.isNone&&(t.after.toList.all λe=> !Region.binds .any e || Nat.blt e.on ops.size)&&(List.range ops.size).all λj=>t.after.toList.any λe=>binds .any e&&(beq e.on j || anc ops ops.size e.on j)
def Hd (ro:Nat)(ops:Array Oper)(σ:List TV)(T:VT)(K:List TV→VT→Prop):Prop:=cond (CC ops) (match zh P F ops with
 |some p=>ft P G F call rnd ro ops T false p σ T K
 |none=>match mA P ops with
  |some p=>dp P G F call rnd (min ro T.objs.length) ops (zf P ops) (replicate ops.size false) T p σ T K
  |none=>match my P ops with
   |some p=>ft P G F call rnd ro ops T false p σ T K
   |none=>match ops.toList.getLast?,mA P ops.toList.dropLast.toArray with
    |some t,some p=>cond (uU ops.toList.dropLast.toArray t)
      (dp P G F call rnd (min ro T.objs.length) ops.toList.dropLast.toArray (zf P ops.toList.dropLast.toArray) (replicate ops.toList.dropLast.toArray.size false) T p σ T λσ' T'=>rU P G F call rnd (min ro T.objs.length) t σ' T' K) (aR 16 t.op [])
    |_,_=>aR 6 (ops.toList.getLastD default).op []) (aR 15 default σ)
end
abbrev be:=Nat→List TV→VT→(TV→VT→Prop)→Prop
abbrev cB:=Option Nat→Nat→List TV→VT→List Nat→KX→Prop
def rX (k:List TV→VT→List Nat→Prop)(K:KX):KX
 | .normal,σ,T,D=>k σ T D
 |e,σ,T,D=>K e σ T D
def tz (id:Nat)(K:KX):KX
 | .exit id',σ,T,D=>cond (beq id' id) (K .normal σ T D) (K (.exit id') σ T D)
 |e,σ,T,D=>K e σ T D
def Ja (K:KX):KX
 | .goto _,σ,_,_=>aR 8 default σ
 |e,σ,T,D=>K e σ T D
def qU (ro:Nat):List Nat→VT→Option VT
 |[],T=>some T
 |id::D,T=>match T.objs[id]? with
  |some .defd=>bif ble ro id then qU ro D (T.kill id) else none
  |_=>none
def xq (P:Program)(fn:Func)(ro:Nat)(σ:List TV)(T:VT)(D:List Nat)(K:TV→VT→Prop):Prop:=match qU ro D T with
 |some T'=>match oI P T' σ fn.results with
  |some x=>K x T'
  |none=>aR 7 default σ
 |none=>aR 16 default σ
def Bz (P:Program)(fn:Func)(ro:Nat)(K:TV→VT→Prop):KX
 | .normal,σ,T,D=>xq P fn ro σ T D K
 | .ret,σ,T,D=>xq P fn ro σ T D K
 |_,σ,_,_=>aR 9 default σ
def xr (fn:Func)(xs:List TV):List TV:=xs++List.replicate (fn.ntmps-xs.length) (.val undef)
abbrev zi:=Option Nat→Nat→Code→List TV→VT→List Nat→KX→Prop
def lg (P:Program)(C:FuncId→Option be)(run:zi):jP:=λro f xs T K=>match P.funcs[f]? with
 |some fn=>match fn.body with
  |some c=>match C f with
   |some W=>W ro xs T K
   |none=>run none ro c (xr fn xs) T [] (Bz P fn ro K)
  |none=>aR 10 default [.val (.int .i64 f)]
 |none=>aR 11 default [.val (.int .i64 f)]
def VT.setLoop (T:VT)(id:Nat)(st:LoopState)(pend:Option Code)(σ:List TV)(ps:Array Tmp)(asg body:Code):VT:={T with objs:=T.objs.set id (.loop st pend σ ps asg body)}
def ox:List Tmp→List TV→List TV→List TV
 |p::ps,x::xs,σ=>ox ps xs (σ.set p x)
 |_,_,σ=>σ
def lh (ro id:Nat)(st:LoopState)(pend:Option Code)(T:VT)(K:VT→Prop):Prop:=match T.objs[id]? with
 |some (.loop _ _ σ ps asg body)=>cond (ble ro id) (K (T.setLoop id st pend σ ps asg body)) (aR 17 default [])
 |_=>aR 18 default []
def Jb (ro id:Nat)(K:TV→VT→Prop):KX
 | .normal,_,T,_=>lh ro id .ready none T λT=>K (.val (.bool true)) T
 | .ret,_,T,_=>lh ro id .done (some .ret) T λT=>K (.val (.bool false)) T
 | .exit x,_,T,_=>lh ro id .done (some (.exit x)) T λT=>K (.val (.bool false)) T
 |_,σ,_,_=>aR 19 default σ
def qV (run:zi):lI:=λro id xs T K=>match T.objs[id]? with
 |some (.loop .ready none σ ps asg body)=>cond (ble ro id&&beq ps.size xs.length) (run (some id) ro asg (ox ps.toList xs σ) T [] λe σ1 T1 D1=>match e with
  | .normal=>match T1.objs[id]? with
   |some (.loop .ready none σ' ps' asg' body')=>run (some id) ro body σ1 (T1.setLoop id .busy none σ' ps' asg' body') D1 (Jb ro id K)
   |_=>aR 20 default σ1
  |_=>aR 21 default σ1) (aR 22 default xs)
 |_=>aR 23 default xs
def jv (ro id:Nat)(σ:List TV)(D:List Nat)(K:KX)(T:VT):Prop:=match T.objs[id]? with
 |some (.loop .ready none σ' ps asg body)=>cond (ble ro id) (K .normal σ (T.setLoop id .exhausted none σ' ps asg body) D) (aR 17 default [])
 |some (.loop .done (some .ret) σ' ps asg body)=>cond (ble ro id) (K .ret σ (T.setLoop id .exhausted (some .ret) σ' ps asg body) D) (aR 17 default [])
 |some (.loop .done (some (.exit x)) σ' ps asg body)=>cond (ble ro id) (K (.exit x) σ (T.setLoop id .exhausted (some (.exit x)) σ' ps asg body) D) (aR 17 default [])
 |_=>aR 24 default σ
def vx (P:Program)(G:aV)(C:FuncId→Option be)(F:ki):Nat→(Nat→Option (cB × Code))→zi
 | 0,_,_,_,_,σ,_,_,_=>aR 12 default σ
 |n+1,L,rd,ro,c,σ,T,D,K=>match c with
  | .skip=>K .normal σ T D
  | .exit id=>K (.exit id) σ T D
  | .ret=>K .ret σ T D
  | .seq a b=>vx P G C F n L rd ro a σ T D (rX (λσ T D=>vx P G C F n L rd ro b σ T D K) K)
  | .cond c x y=>match bt G σ c with
   | .val (.bool b)=>cond b (vx P G C F n L rd ro x σ T D K) (vx P G C F n L rd ro y σ T D K)
   |x=>aR 13 default [x]
  | .block id c=>match L id with
   |some (W,c')=>c'=.block id c∧W rd ro σ T D K
   |none=>vx P G C F n L rd ro c σ T D (tz id K)
  | .scope c=>vx P G C F n L rd ro c σ T D (Ja K)
  | .loop c=>vx P G C F n L rd ro c σ T D (rX (λσ T D=>vx P G C F n L rd ro (.loop c) σ T D K) K)
  | .region id ops d=>match L (1000000+id) with
   |some (W,c')=>c'=.region id ops d∧W rd ro σ T D K
   |none=>cond d (Hd P G F (lg P C (vx P G C aM n λ_=>none)) (qV (vx P G C aM n λ_=>none)) ro ops σ T λσ T=>K .normal σ T D)
    (wb P G F (lg P C (vx P G C aM n λ_=>none)) (qV (vx P G C aM n λ_=>none)) ro ops ops.toList σ T λσ T=>K .normal σ T D)
  | .rangeFunc f ps asg body=>match bt G σ f with
   | .fn (.func fi) first ca=>match rd with
    |none=>lg P C (vx P G C aM n λ_=>none) ro fi (first++ [.yld (T.objs.length+1)]++ca) {T with objs:=T.objs++ [.defd]++ [.loop .ready none σ ps asg body]} λ_ T'=>jv ro (T.objs.length+1) σ (T.objs.length::D) K T'
    |some i0=>match T.objs[i0]? with
     |some (.loop ..)=>lg P C (vx P G C aM n λ_=>none) ro fi (first++ [.yld T.objs.length]++ca) {T with objs:=T.objs++ [.loop .ready none σ ps asg body]} λ_ T'=>jv ro T.objs.length σ D K T'
     |_=>aR 26 default σ
   |x=>aR 25 default [x]
  | .label _=>K .normal σ T D
  |_=>aR 14 default σ
def NV (P:Program)(G:aV)(C:FuncId→Option be)(n:Nat)(L:Nat→Option (cB × Code))(ro:Nat)(f:FuncId)(xs:List TV)(T:VT)(K:TV→VT→Prop):Prop:=match P.funcs[f]? with
 |some fn=>match fn.body with
  |some c=>vx P G C aM n L none ro c (xr fn xs) T [] (Bz P fn ro K)
  |none=>False
 |none=>False
def au (P:Program)(G:aV)(C:FuncId→Option be)(F:ki)(n:Nat)(L:Nat→Option (cB × Code))(ro:Nat)(f:FuncId)(xs:List TV)(T:VT)(K:TV→VT→Prop):Prop:=match P.funcs[f]? with
 |some fn=>match fn.body with
  |some c=>vx P G C F n L none ro c (xr fn xs) T [] (Bz P fn ro K)
  |none=>False
 |none=>False
end Go.Proofs.YtogbdjlelkepcaaGreatDoor