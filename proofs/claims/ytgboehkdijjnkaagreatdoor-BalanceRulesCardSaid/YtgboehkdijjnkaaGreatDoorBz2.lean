/-Part 2 of the proof of balanceRulesCard_holds:Vx,Key,Vr ... No condition. -/
import Derived.Laws.MakeOwn
import Derived.Laws.BytesString
import Derived.Laws.BytesArg
import Derived.Lib.AppendZerosOnto
import Derived.RangeFuncLeaves
import Derived.RangeFuncRecord
import Derived.RangeFuncCalls
import Derived.Test.YtgboehkdijjnkaaGreatDoorBz1
set_option maxRecDepth 100000
namespace Go.Proofs.YtgboehkdijjnkaaGreatDoor
open Go.RowKit
open _root_.Array (ext' getElem?_modify getElem?_toList getElem_map getElem_mem getElem_of_mem getElem_range length_toList mem_toList_iff toArray_toList)
open _root_.Bool (and_eq_true false_eq_true)
open Go.Builtin (append_ cap_ clear_ copy_ delete_ firstCells len_ zeroCells)
open Go.Calls (mono)
open Go.Extern (allGenericRows allRows allTypedRows find findNext)
open Go.Fence (wide)
open Go.Instr (arrayAt checkKey findAsking findKey findNow indexAt keyThatStays sameBits sameNow sliceAt storeAt sureAddr yield)
open Go.IntKind (i64)
open _root_.List (all_eq_true append_assoc drop_drop ext_getElem? getElem?_append getElem?_drop getElem?_map getElem?_set getElem?_take length length_append length_nil map_cons map_set mem_append mem_map mem_map_of_mem mem_of_getElem? mem_of_mem_drop mem_of_mem_take nodup_nil range' size_toArray take_left' zipIdx_cons)
open _root_.Nat (add_mul add_right_comm add_zero beq ble eq_of_beq_eq_true le_of_ble_eq_true le_refl lt_or_ge min_eq_left mod_lt mul_one sub_zero zero_add zero_le zero_mul)
open Go.Op (equalIn)
open Go.Oper (wp)
open _root_.Option (isSome_iff_exists map_eq_some_iff map_none map_some)
open Go.Result (andThen andThen_ok)
open Go.Sem (run_bind run_pure)
open _root_.UInt8 (ofNat)
open Go.Value (oneCell')
open Go.World (cell?)
section
variable {P:Program}
structure Fix (ro:Nat) (g:Gh) (T:VT) (w:World) (T':VT) (w':World):Prop where
 len:T.objs.length≤T'.objs.length
 same:∀i,i<ro→i<T.objs.length→T'.objs[i]?=T.objs[i]?
 heap:∀(i:Nat) o b,i<ro→T.objs[i]?=some o→o.live=true→g.obj i=some b→w'.heap[b]?=w.heap[b]?
theorem Fix.refl (ro:Nat)(g:Gh)(T:VT)(w:World):Fix ro g T w T w:=⟨le_refl _,λ_ _ _=>rfl,λ_ _ _ _ _ _ _=>rfl⟩
theorem Fix.trans {ro:Nat}{g g':Gh}{T T' T'' :VT}{w w' w'' :World}(h:Fix ro g T w T' w')(e:Evo g w g' w')(k:Fix ro g' T' w' T'' w''):Fix ro g T w T'' w'' where
 len:=Nat.le_trans h.len k.len
 same i hi hl:=(k.same i hi (Nat.lt_of_lt_of_le hl h.len)).trans (h.same i hi hl)
 heap i o b hi ho hl hb:=by
  have hlt:=(List.getElem?_eq_some_iff.1 ho).1
  exact (k.heap i o b hi ((h.same i hi hlt).trans ho) hl (e.obj i b hb)).trans (h.heap i o b hi ho hl hb)
theorem Fix.mono {ro ro':Nat}(hr:ro≤ro'){g:Gh}{T T':VT}{w w':World}(h:Fix ro' g T w T' w'):Fix ro g T w T' w':=
 ⟨h.len,λi hi=>h.same i (Nat.lt_of_lt_of_le hi hr),λi o b hi=>h.heap i o b (Nat.lt_of_lt_of_le hi hr)⟩
theorem Fix.of_same {ro:Nat}{g:Gh}{T T':VT}{w w':World}(h:Same g T w w')(k:T'.objs.take T.objs.length=T.objs):Fix ro g T w T' w' where
 len:=by
  have:=congrArg length k
  rw [List.length_take] at this;omega
 same i _ hl:=by
  have:=congrArg (·[i]?) k
  simp only [getElem?_take,hl,if_true] at this
  exact this
 heap i o b _ ho hl hb:=h.obj i o b ho hl hb
def lA (ro:Nat)(op:Op)(ev:Operand→TV):Bool:=match op with
 | .store _ a _=>match ev a with
  | .ptr id _=>ble ro id
  |_=>false
 |_=>true
theorem cq {ro:Nat}{g:Gh}{T:VT}{w w':World}(r:RW g T w){id b:Nat}{o o':VO}(hid:T.objs[id]?=some o)(hl:o.live=true)(hb:g.obj id=some b)(hr:ro≤id)
  (hoth:∀c,c≠b→w'.heap[c]?=w.heap[c]?):Fix ro g T w {T with objs:=T.objs.set id o' } w' where
 len:=by simp
 same i hi _:=by
  simp only [getElem?_set]
  rw [if_neg (by omega)]
 heap i oi bi hi ho hli hbi:=hoth bi λh=>by
  have:=r.inj i id oi o b ho hli hid hl (h▸hbi) hb
  omega
theorem j9 {ro:Nat}{g:Gh}{T:VT}{w:World}(r:RW g T w){t:TypeId}{id off:Nat}{x y:TV}{ua u:Value}{T':VT}(h:iH P T t (.ptr id off) x=some (y,T'))(ha:VR g w (.ptr id off) ua)(hx:VR g w x u)(hr:ro≤id):
  ∃g' w',(storeAt t ua u).run P w=.ok () w'∧VR g' w' y undef∧Evo g w g' w'∧RW g' T' w'∧Fix ro g T w T' w':=by
 unfold iH at h
 simp only at h
 split at h
 ·rename_i cs new i hid hc hi
  split at h
  ·rename_i hh
   obtain ⟨h1,h2,h3⟩:=hh
   injection h with h;injection h with e1 e2;subst e1 e2
   obtain ⟨b,hb,rfl⟩:=ha.ptr_inv
   obtain ⟨b',h4,⟨us,ty,h5,h6,h7⟩,_⟩:=r.obj id _ hid rfl
   rw [hb] at h4;injection h4 with h4;subst h4
   have k:=iG hc hx
   have ho:=im h3 k
   have hl:u.cells.toList.length=new.length:=k.1
   have hus:us.length=cs.length:=h6.1
   have hrun:=run_storeCells_at (P:=P) b off ty u.cells.toList 0 us.toArray w h5 (by simp at hl ⊢;omega) ho
   simp only [add_zero,hl] at hrun
   have hsr:=setRow_heap w b _ (us.take off++u.cells.toList++us.drop (off+new.length)).toArray ty (0,0) h5
   have hcs:bg (w.setRow b (us.take off++u.cells.toList++us.drop (off+new.length)).toArray) b=bg w b:=by
    rw [aY hsr,aY h5]
    simp at hl ⊢;omega
   have e0:Evo g w g (w.setRow b (us.take off++u.cells.toList++us.drop (off+new.length)).toArray):=by
    refine ⟨rfl,rfl,rfl,by simp,λ_ _ h=>h,λc p hs=>⟨hs,?_⟩,rfl,λc hc=> ?_,λ_ _ _ h=>h,λ_ x h=>⟨x,h,.inl rfl,rfl,rfl⟩,(λ_ _ h h'=>nomatch (h.symm.trans h')),λc _=> ?_⟩
    rotate_right
    ·by_cases hc:c=b
     ·subst hc;exact hcs
     ·unfold bg;rw [setRow_other w b c _ hc]
    ·obtain ⟨b2,q1,_,_,q4⟩:=r.obj id _ hid rfl
     rw [hb] at q1;injection q1 with q1;subst q1
     exact cell_setRow_other w b _ _ (by rintro rfl;exact q4 p hs)
    ·obtain ⟨b2,q1,_,q3,_⟩:=r.obj id _ hid rfl
     rw [hb] at q1;injection q1 with q1;subst q1
     exact setRow_other w b c _ (by rintro rfl;exact q3 hc)
   have k2:=(((h6.take off).app k).app (h6.drop (off+new.length))).mono e0
   have o2:∀v∈us.take off++u.cells.toList++us.drop (off+new.length),v.oneCell'=true:=by
    intro v hv
    simp only [mem_append] at hv
    rcases hv with (hv | hv) | hv
    ·exact h7 v (mem_of_mem_take hv)
    ·exact ho v hv
    ·exact h7 v (mem_of_mem_drop hv)
   have hoth:∀c,c≠b→(w.setRow b (us.take off++u.cells.toList++us.drop (off+new.length)).toArray).heap[c]?=w.heap[c]?:=λc hc=>setRow_other w b c _ hc
   obtain ⟨r',e'⟩:=r.setObj hid rfl hb (o':=.cells (aU cs off new)) (w':=w.setRow b (us.take off++u.cells.toList++us.drop (off+new.length)).toArray) ⟨rfl,rfl,rfl⟩ (by simp) hoth hcs
    (λ_=>⟨_,ty,setRow_heap w b _ _ ty (0,0) h5,k2,o2⟩)
   refine ⟨g,_,?_,.val _,e',r',cq r hid rfl hb hr hoth⟩
   have hs:u.cells.size=i.size:=by rw [h1,←hl];simp
   simp only [storeAt,sureAddr,storeVar,run_bind,run_pure,andThen_ok,be hi,hs]
   simpa using hrun
  ·cases h
 ·cases h
theorem ur {T T':VT}{cs:List TV}{y:TV}(h:ou T cs=some (y,T')):T'.objs.take T.objs.length=T.objs:=by
 unfold ou at h
 split at h
 ·injection h with h;injection h with _ h;subst h;simp
 ·cases h
theorem qt {T T1:VT}{size k e:Nat}{bn:Bool}{s:TV}{es:List (List TV)}(h:ct T size s=some (es,k,e,bn,T1)):T1.objs=T.objs:=by
 unfold ct at h
 split at h
 ·injection h with h;simp only [Prod.mk.injEq] at h;obtain ⟨_,_,_,_,rfl⟩:=h;rfl
 ·split at h
  ·injection h with h;simp only [Prod.mk.injEq] at h;obtain ⟨_,_,_,_,rfl⟩:=h;rfl
  ·cases h
 ·split at h
  ·split at h
   ·injection h with h;simp only [Prod.mk.injEq] at h;obtain ⟨_,_,_,_,rfl⟩:=h;rfl
   ·cases h
  ·cases h
 ·cases h
theorem zQ {T T':VT}{op:Op}{ev:Operand→TV}{y:TV}(h:gW P T op ev=some (y,T')):T'.objs.take T.objs.length=T.objs:=by
 cases op<;>simp only [gW] at h<;>try (cases h)
 case alloc e=>
  unfold jw at h
  split at h
  ·split at h
   ·exact ur h
   ·cases h
  ·cases h
 case box e x=>
  unfold vR at h
  simp only [Option.bind_eq_some_iff] at h
  obtain ⟨_,_,h⟩:=h
  exact ur h
 case buildSlice t n ps=>
  simp only [map_eq_some_iff] at h
  obtain ⟨y',h,e⟩:=h
  injection e with e1 e2;subst e2;simp
 case call c=>
  split at h
  ·unfold fA at h
   split at h
   ·split at h
    ·split at h
     ·split at h
      ·injection h with h;injection h with _ h;subst h
       rename_i h1 _ _ _
       simp [qt h1]
      ·cases h
     ·cases h
    ·cases h
   ·cases h
  ·cases h
theorem yE {ro:Nat}{g:Gh}{T T':VT}{w:World}(r:RW g T w){o:Oper}{ev:Operand→TV}{ρ:Operand→Value}{y:TV}(hf:lA ro o.op ev=true)(h:qr P T o.op ev=some (y,T'))(hev:∀x,VR g w (ev x) (ρ x)):
  ∃m v g' w',(execOp ρ o).run P w=.ok m w'∧fB m=some v∧VR g' w' y v∧Evo g w g' w'∧RW g' T' w'∧Fix ro g T w T' w':=by
 unfold qr at h
 split at h
 ·rename_i x hx
  injection h with h;injection h with e1 e2;subst e1 e2
  obtain ⟨v,h1,h2⟩:=vQ (P:=P) r hx hev
  exact ⟨_,v,g,w,h2 w (Same.refl _ _ _),rfl,h1,Evo.refl _ _,r,Fix.refl _ _ _ _⟩
 ·have mk:∀{y T'},gW P T o.op ev=some (y,T')→∃m v g' w',(execOp ρ o).run P w=.ok m w'∧fB m=some v∧VR g' w' y v∧Evo g w g' w'∧RW g' T' w'∧Fix ro g T w T' w':=by
   intro y T' h
   obtain ⟨v,g',w',h1,h2,h3,h4,h5⟩:=vW r h hev
   exact ⟨_,v,g',w',h1,rfl,h2,h3,h4,Fix.of_same h5 (zQ h)⟩
  rename_i hvr
  clear hvr
  obtain ⟨dst,op,ty,pos,af,gd⟩:=o
  simp only at h hf mk
  cases op<;>simp only [kN] at h<;>try (cases h)
  case alloc e=>exact mk (by simpa only [gW] using h)
  case box e x=>exact mk (by simpa only [gW] using h)
  case buildSlice t n ps=>exact mk (by simpa only [gW] using h)
  case call c=>exact mk (show gW P T (.call c) ev=some (y,T') from h)
  case build t ps=>
   simp only [map_eq_some_iff] at h
   obtain ⟨y',h,e⟩:=h
   injection e with e1 e2;subst e1 e2
   obtain ⟨h1,h2⟩:=ow hev ps
   obtain ⟨v,h3,h4⟩:=uo (P:=P) h h1 h2
   exact ⟨.value v,v,g,w,by simp [execOp,h4 w],rfl,h3,Evo.refl _ _,r,Fix.refl _ _ _ _⟩
  case store t a x=>
   simp only [lA] at hf
   split at hf
   ·rename_i id off ha
    rw [ha] at h
    have h1:=hev a
    rw [ha] at h1
    obtain ⟨g',w',h2,h3,h4,h5,h6⟩:=j9 (ro:=ro) r h h1 (hev x) (le_of_ble_eq_true hf)
    exact ⟨.skip,undef,g',w',by simp [execOp,h2],rfl,h3,h4,h5,h6⟩
   ·cases hf
end
section
variable (P:Program)
def ko (sh:TypeId→Option KS):Nat→List Field→Option (List CK)
 |_,[]=>some []
 |i,f::fs=>match sh f.type,P.info? f.type with
  |some s,some inf=>bif decide (f.offset=i)&&decide (f.name≠ "_")&&decide (inf.size=s.ks.length) then (ko sh (i+s.ks.length) fs).map (s.ks++ ·) else none
  |_,_=>none
def ut:Nat→List CK→List CK
 | 0,_=> []
 |n+1,ks=>ks++ut n ks
def kr:Nat→TypeId→Option KS
 | 0,_=>none
 |n+1,t=>match P.underlying t with
  |some (.int k)=>some ⟨false,[.int k]⟩
  |some .bool=>some ⟨false,[.bool]⟩
  |some .string=>some ⟨false,[.str]⟩
  |some (.struct fs)=>bif P.stoodInHeld t || P.eqGuardType P.depth t then none else (ko P (kr n) 0 fs.toList).map (⟨true, ·⟩)
  |some (.array len e)=>match kr n e,P.info? e with
   |some s,some inf=>bif decide (inf.size=s.ks.length)&& !(P.eqGuardType P.depth t) then some ⟨true,ut len s.ks⟩ else none
   |_,_=>none
  |_=>none
end
section
variable {P:Program}{w:World}
theorem cl {s:KS}{v:Value}{cs:List Value}(h:s.agg=true)(hc:s.cells v=some cs):v=.agg cs.toArray:=by
 unfold KS.cells at hc
 rw [h] at hc
 cases v<;>simp at hc
 subst hc;simp
structure pR (P:Program) (d:Nat) (t:TypeId) (s:KS):Prop where
 one:s.agg=false→∃c,s.ks= [c]
 isA:∃ds,P.underlying t=some ds∧fP ds=s.agg
 eq:∀(m:Nat) (w:World) a b,s.fits a=true→s.fits b=true→(equalIn (d+m) t a b).run P w=.ok (aj a b) w
 chk:∀(m:Nat) (em:Bool) (w:World) a,s.fits a=true→(checkKey em (d+m) t a).run P w=.ok () w
 guard:s.agg=true→P.eqGuardType P.depth t=false
theorem c8 {s:KS}{v:Value}(h:s.fits v=true):∃cs,s.cells v=some cs∧aQ s.ks cs=true:=by
 unfold KS.fits at h
 split at h
 ·exact ⟨_,by assumption,h⟩
 ·cases h
theorem ku {s:KS}{v:Value}{cs:List Value}(h:s.cells v=some cs)(hf:aQ s.ks cs=true):s.fits v=true:=by
 unfold KS.fits;rw [h];exact hf
theorem ip {d:Nat}{t:TypeId}{s:KS}{inf:TypeInfo}(ok:pR P d t s)(hi:P.info? t=some inf)(hz:inf.size=s.ks.length){xs:List Value}{off:Nat}
  (hf:aQ s.ks ((xs.drop off).take s.ks.length)=true):∃v,(∀w:World,(part t xs.toArray off).run P w=.ok v w)∧s.cells v=some ((xs.drop off).take s.ks.length):=by
 obtain ⟨ds,hu,hag⟩:=ok.isA
 cases ha:s.agg with
 |true=>
  refine ⟨.agg ((xs.drop off).take s.ks.length).toArray,λw=> ?_,by simp [KS.cells,ha]⟩
  have hisA:(isAgg t).run P w=.ok true w:=by rw [il hu,hag,ha]
  have hsz:(sizeOf t).run P w=.ok inf.size w:=be hi w
  simp only [part,run_bind,hisA,andThen_ok,if_true,hsz,run_pure]
  rw [hz]
  congr 2
  simp only [List.extract_toArray]
  rw [List.extract_eq_take_drop]
  congr 2
  omega
 |false=>
  obtain ⟨c,hc⟩:=ok.one ha
  rw [hc] at hf ⊢
  have hl:=cK hf
  simp only [List.length_cons,length_nil] at hl
  cases hd:xs[off]? with
  |none=>
   have:=List.getElem?_eq_none_iff.1 hd
   simp at hl;omega
  |some v=>
   have e1:(xs.drop off).take 1= [v]:=by
    have hlt:=(List.getElem?_eq_some_iff.1 hd)
    obtain ⟨hlt,hv⟩:=hlt
    rw [List.drop_eq_getElem_cons hlt,List.take_succ_cons,List.take_zero,hv]
   refine ⟨v,λw=> ?_,?_⟩
   ·have hisA:(isAgg t).run P w=.ok false w:=by rw [il hu,hag,ha]
    simp [part,hisA,hd]
   ·simp only [List.length_cons,length_nil,zero_add] at hf ⊢
    rw [e1] at hf ⊢
    simp only [aQ,Bool.and_true] at hf
    cases v<;>simp [KS.cells,ha]<;>cases c<;>simp [CK.fit] at hf
theorem yF {d:Nat}{sh:TypeId→Option KS}(hsh:∀t s,sh t=some s→pR P d t s)(m:Nat){xs ys:List Value}:∀(fs:List Field) (i:Nat) (ks:List CK),ko P sh i fs=some ks→aQ ks (xs.drop i)=true→aQ ks (ys.drop i)=true→
  ∀w:World,(Op.eqFields (d+m) xs.toArray ys.toArray fs).run P w=.ok (du (xs.drop i) (ys.drop i)) w
 |[],i,ks,h,hx,hy,w=>by
  simp only [ko,Option.some.injEq] at h
  subst h
  have h1:=cK hx
  have h2:=cK hy
  simp only [length_nil,List.length_eq_zero_iff] at h1 h2
  rw [h1,h2]
  simp [Op.eqFields,du]
 |f::fs,i,ks,h,hx,hy,w=>by
  simp only [ko] at h
  split at h
  ·rename_i s inf hs hi
   cases hb:(decide (f.offset=i)&&decide (f.name≠ "_")&&decide (inf.size=s.ks.length)) with
   |false=>rw [hb] at h;cases h
   |true=>
    rw [hb] at h
    simp only [and_eq_true,decide_eq_true_eq] at hb
    obtain ⟨⟨ho,hn⟩,hz⟩:=hb
    simp only [cond_true,map_eq_some_iff] at h
    obtain ⟨ks',h,rfl⟩:=h
    have ok:=hsh _ _ hs
    have fx:=eX hx
    have fy:=eX hy
    obtain ⟨a,pa,ca⟩:=ip ok hi hz fx.1
    obtain ⟨b,pb,cb⟩:=ip ok hi hz fy.1
    have e1:=ok.eq m w a b (ku ca fx.1) (ku cb fy.1)
    rw [gM ca cb] at e1
    have ih:=yF hsh m fs (i+s.ks.length) ks' h (by rw [←drop_drop];exact fx.2) (by rw [←drop_drop];exact fy.2) w
    have hl:=(cK hx).trans (cK hy).symm
    have hl2:=cK hx
    simp only [length_append] at hl2
    rw [qq s.ks.length (by omega) hl]
    simp only [Op.eqFields,hn,ne_eq,not_false_eq_true,if_true,run_bind,pa,pb,ho,e1,andThen_ok]
    cases hq:du ((xs.drop i).take s.ks.length) ((ys.drop i).take s.ks.length) with
    |false=>simp
    |true=>
     simp only [Bool.not_true,false_eq_true,if_false,cond_true]
     rw [drop_drop,drop_drop]
     exact ih
  ·cases h
theorem uu {ks:List CK}:∀(n:Nat) (xs:List Value),aQ (ut n ks) xs=true→∀j,j<n→aQ ks ((xs.drop (j*ks.length)).take ks.length)=true
 | 0,_,_,j,hj=>by omega
 |n+1,xs,h,j,hj=>by
  simp only [ut] at h
  have:=eX h
  cases j with
  |zero=>simpa using this.1
  |succ j=>
   have:=uu n _ this.2 j (by omega)
   rw [drop_drop] at this
   rw [Nat.succ_mul,Nat.add_comm];exact this
theorem yG {d:Nat}{t:TypeId}{s:KS}{inf:TypeInfo}(ok:pR P d t s)(hi:P.info? t=some inf)(hz:inf.size=s.ks.length)(m:Nat){xs ys:List Value}:∀(n j:Nat),aQ (ut n s.ks) (xs.drop (j*s.ks.length))=true→aQ (ut n s.ks) (ys.drop (j*s.ks.length))=true→
  ∀w:World,(Op.eqItems (d+m) t (P.cellsOf t) xs.toArray ys.toArray (range' j n)).run P w=.ok (du (xs.drop (j*s.ks.length)) (ys.drop (j*s.ks.length))) w
 | 0,j,hx,hy,w=>by
  have h1:=cK hx
  have h2:=cK hy
  simp only [ut,length_nil,List.length_eq_zero_iff] at h1 h2
  rw [h1,h2]
  simp [Op.eqItems,du]
 |n+1,j,hx,hy,w=>by
  have hce:P.cellsOf t=s.ks.length:=by simp [Program.cellsOf,hi,hz]
  simp only [ut] at hx hy
  have fx:=eX hx
  have fy:=eX hy
  obtain ⟨a,pa,ca⟩:=ip ok hi hz fx.1
  obtain ⟨b,pb,cb⟩:=ip ok hi hz fy.1
  have e1:=ok.eq m w a b (ku ca fx.1) (ku cb fy.1)
  rw [gM ca cb] at e1
  have e2:(j+1)*s.ks.length=j*s.ks.length+s.ks.length:=Nat.succ_mul _ _
  have ih:=yG ok hi hz m n (j+1) (by rw [e2,←drop_drop];exact fx.2) (by rw [e2,←drop_drop];exact fy.2) w
  have hl:=(cK hx).trans (cK hy).symm
  have hl2:=cK hx
  simp only [length_append] at hl2
  rw [qq s.ks.length (by omega) hl]
  simp only [List.range'_succ,Op.eqItems,hce,run_bind,pa,pb,e1,andThen_ok]
  cases hq:du ((xs.drop (j*s.ks.length)).take s.ks.length) ((ys.drop (j*s.ks.length)).take s.ks.length) with
  |false=>simp
  |true=>
   simp only [Bool.not_true,false_eq_true,if_false,cond_true]
   rw [drop_drop,drop_drop,←e2]
   rw [hce] at ih
   exact ih
theorem gz:∀(n:Nat) (t:TypeId) (s:KS),kr P n t=some s→pR P n t s
 | 0,_,_,h=>by simp [kr] at h
 |n+1,t,s,h=>by
  have IH:=gz n
  unfold kr at h
  split at h
  ·rename_i k hu
   injection h with h;subst h
   refine ⟨λ_=>⟨_,rfl⟩,⟨_,hu,rfl⟩,λm w a b ha hb=> ?_,λm em w a ha=> ?_,λh=>by cases h⟩
   ·rw [add_right_comm]
    cases a<;>simp [KS.fits,KS.cells,aQ,CK.fit] at ha
    cases b<;>simp [KS.fits,KS.cells,aQ,CK.fit] at hb
    subst ha hb
    simp [equalIn,run_underlying hu,aj,cH]
   ·rw [add_right_comm]
    cases a<;>simp [KS.fits,KS.cells,aQ,CK.fit] at ha
    simp [checkKey,run_underlying hu]
  ·rename_i hu
   injection h with h;subst h
   refine ⟨λ_=>⟨_,rfl⟩,⟨_,hu,rfl⟩,λm w a b ha hb=> ?_,λm em w a ha=> ?_,λh=>by cases h⟩
   ·rw [add_right_comm]
    cases a<;>simp [KS.fits,KS.cells,aQ,CK.fit] at ha
    cases b<;>simp [KS.fits,KS.cells,aQ,CK.fit] at hb
    simp [equalIn,run_underlying hu,aj,cH]
   ·rw [add_right_comm]
    cases a<;>simp [KS.fits,KS.cells,aQ,CK.fit] at ha
    simp [checkKey,run_underlying hu]
  ·rename_i hu
   injection h with h;subst h
   refine ⟨λ_=>⟨_,rfl⟩,⟨_,hu,rfl⟩,λm w a b ha hb=> ?_,λm em w a ha=> ?_,λh=>by cases h⟩
   ·rw [add_right_comm]
    cases a<;>simp [KS.fits,KS.cells,aQ,CK.fit] at ha
    cases b<;>simp [KS.fits,KS.cells,aQ,CK.fit] at hb
    simp [equalIn,run_underlying hu,aj,cH]
   ·rw [add_right_comm]
    cases a<;>simp [KS.fits,KS.cells,aQ,CK.fit] at ha
    simp [checkKey,run_underlying hu]
  ·rename_i fs hu
   cases hb:(P.stoodInHeld t || P.eqGuardType P.depth t) with
   |true=>rw [hb] at h;cases h
   |false=>
    rw [hb] at h
    simp only [Bool.or_eq_false_iff] at hb
    simp only [cond_false,map_eq_some_iff] at h
    obtain ⟨ks,hk,rfl⟩:=h
    have hfs:P.fieldsOf t=fs:=by simp [Program.fieldsOf,hu]
    refine ⟨λh=>(by cases h),⟨_,hu,rfl⟩,λm w a b ha hb2=> ?_,λm em w a ha=> ?_,λ_=>hb.2⟩
    ·obtain ⟨xs,cx,fx⟩:=c8 ha
     obtain ⟨ys,cy,fy⟩:=c8 hb2
     rw [gM cx cy,cl rfl cx,cl rfl cy,add_right_comm]
     rw [run_equalIn_struct w (n+m) t xs.toArray ys.toArray (by rw [hfs];exact hu) hb.1,hfs]
     simpa using yF IH m fs.toList 0 ks hk (by simpa using fx) (by simpa using fy) w
    ·obtain ⟨xs,cx,fx⟩:=c8 ha
     rw [cl rfl cx,add_right_comm,checkKey]
     simp only [run_bind,run_underlying hu,andThen_ok]
     rw [←Array.forIn_toList]
     have fx':aQ ks (xs.drop 0)=true:=by simpa using fx
     clear fx ha cx hu hfs
     generalize (0:Nat)=i at hk fx'
     revert i ks
     generalize fs.toList=fl
     clear fs
     induction fl with
     |nil=>intro ks i _ _;simp
     |cons f fs ih=>
      intro ks i hk fx'
      simp only [ko] at hk
      split at hk
      ·rename_i s inf hs hi
       cases hb3:(decide (f.offset=i)&&decide (f.name≠ "_")&&decide (inf.size=s.ks.length)) with
       |false=>rw [hb3] at hk;cases hk
       |true=>
        rw [hb3] at hk
        simp only [and_eq_true,decide_eq_true_eq] at hb3
        obtain ⟨⟨ho,hn⟩,hz⟩:=hb3
        simp only [cond_true,map_eq_some_iff] at hk
        obtain ⟨ks',hk,rfl⟩:=hk
        have ok:=IH _ _ hs
        have f2:=eX fx'
        obtain ⟨a,pa,ca⟩:=ip ok hi hz f2.1
        have hc:=ok.chk m em w a (ku ca f2.1)
        simp only [List.forIn_cons,run_bind,hn,ne_eq,not_false_eq_true,if_true,ho,pa,hc,andThen_ok,run_pure]
        exact ih ks' (i+s.ks.length) hk (by rw [←drop_drop];exact f2.2)
      ·cases hk
  ·rename_i len e hu
   split at h
   ·rename_i se inf hs hi
    cases hb:(decide (inf.size=se.ks.length)&& !(P.eqGuardType P.depth t)) with
    |false=>rw [hb] at h;cases h
    |true=>
     rw [hb] at h
     simp only [and_eq_true,decide_eq_true_eq,Bool.not_eq_true'] at hb
     simp only [cond_true,Option.some.injEq] at h
     subst h
     have ok:=IH _ _ hs
     refine ⟨λh=>(by cases h),⟨_,hu,rfl⟩,λm w a b ha hb2=> ?_,λm em w a ha=> ?_,λ_=>hb.2⟩
     ·obtain ⟨xs,cx,fx⟩:=c8 ha
      obtain ⟨ys,cy,fy⟩:=c8 hb2
      rw [gM cx cy,cl rfl cx,cl rfl cy,add_right_comm]
      rw [run_equalIn_array w (n+m) xs.toArray ys.toArray hu hi,List.range_eq_range']
      have:=yG ok hi hb.1 m len 0 (xs:=xs) (ys:=ys) (by simpa using fx) (by simpa using fy) w
      simpa using this
     ·obtain ⟨xs,cx,fx⟩:=c8 ha
      rw [cl rfl cx,add_right_comm,checkKey]
      simp only [run_bind,run_underlying hu,andThen_ok]
      simp only [Std.Legacy.Range.forIn_eq_forIn_range',Std.Legacy.Range.size,sub_zero,Nat.add_one_sub_one,Nat.div_one]
      have each:∀j∈range' 0 len,aQ se.ks ((xs.drop (j*se.ks.length)).take se.ks.length)=true:=by
       intro j hj
       simp only [List.mem_range'_1] at hj
       exact uu len xs fx j (by omega)
      generalize range' 0 len=is at each
      induction is with
      |nil=>simp
      |cons j is ih=>
       have f1:=each j (by simp)
       obtain ⟨a,pa,ca⟩:=ip ok hi hb.1 f1
       have hc:=ok.chk m em w a (ku ca f1)
       simp only [List.forIn_cons,run_bind,be hi,hb.1,andThen_ok,pa,hc,run_pure]
       exact ih (λy hy=>each y (by simp [hy]))
   ·cases h
  ·cases h
def bY (P:Program)(t:TypeId):Option KS:=kr P 6 t
theorem qv {t:TypeId}{s:KS}(h:bY P t=some s){a b:Value}(ha:s.fits a=true)(hb:s.fits b=true)(w:World):(Op.equal t a b).run P w=.ok (aj a b) w:=
 (gz 6 t s h).eq 9994 w a b ha hb
theorem cZ {t:TypeId}{s:KS}(h:bY P t=some s){a:Value}(ha:s.fits a=true)(em:Bool)(w:World):(checkKey em 10000 t a).run P w=.ok () w:=
 (gz 6 t s h).chk 9994 em w a ha
end
section
variable {P:Program}{g:Gh}{T:VT}{w:World}
def ci (T:VT)(size:Nat):TV→Option (List (List TV))
 | .vec sz es _=>bif beq sz size then some es else none
 | .val (.slice none 0 _)=>some []
 | .val (.string s)=>bif beq size 1 then some (s.data.toList.map λb=> [.val (.int .u8 b.toNat)]) else none
 | .row sz id off n=>match T.objs[id]? with
  |some (.row cs)=>bif beq sz size&&ble ((off+n)*size) cs.length then some (dn size n ((cs.drop (off*size)).take (n*size))) else none
  |_=>none
 | .sl id off n _=>match T.objs[id]? with
  |some (.cells cs)=>bif ble (off+n*size) cs.length then some (dn size n ((cs.drop off).take (n*size))) else none
  |some (.row cs)=>bif ble (off+n*size) cs.length then some (dn size n ((cs.drop off).take (n*size))) else none
  |_=>none
 |_=>none
theorem vX {size:Nat}{tx:TypeId}{b o n c:Nat}{us:List Value}(hk:(∃e',P.underlying tx=some (.slice e'))∨P.underlying tx=some .string)(hl:us.length=n*size)(h1:∀u∈us,u.oneCell'=true)
  (hc:∀(j:Nat) v,us[j]?=some v→w.cell? ⟨b,o+j,none⟩=some v):Src P size tx (.slice (some ⟨b,o,none⟩) n c) n us w:=by
 have hc:∀w':World,(∀a,w'.cell? a=w.cell? a)→(firstCells size n (.slice (some ⟨b,o,none⟩) n c)).run P w'=.ok us.toArray w':=λw' hw=>by
  have:=run_loadCells_list (P:=P) w' ⟨b,o,none⟩ us (λj v hv=>by rw [Addr.add_none,hw];exact hc j v hv)
  rw [hl] at this
  simpa [firstCells] using this
 exact ⟨hk,λ_=>rfl,hc w (λ_=>rfl),hc w.drew (λ_=>rfl),hl,h1⟩
theorem ek {size n:Nat}{cs:List TV}(h:cs.length=n*size):(dn size n cs).length=n∧(∀e∈dn size n cs,e.length=size)∧(dn size n cs).flatten=cs:=
 ⟨ng size n cs,(lz size n cs h).1,(lz size n cs h).2⟩
theorem kP (r:RW g T w){size:Nat}{tx:TypeId}{x:TV}{u:Value}{es:List (List TV)}(h:ci T size x=some es)(hx:VR g w x u)(hk:(∃e',P.underlying tx=some (.slice e'))∨P.underlying tx=some .string):
  ∃news,Src P size tx u es.length news w∧VRs g w es.flatten news∧∀e∈es,e.length=size:=by
 cases x<;>simp only [ci] at h<;>try (cases h)
 case val v=>
  have e1:ci T size (.val v)=gv size (.val v):=by
   cases v with
   |slice a n c=>cases a<;>cases n<;>rfl
   |string s=>simp only [ci,gv];cases hb:beq size 1 with
    |true=>simp [eq_of_beq_eq_true hb]
    |false=>simp [Nat.ne_of_beq_eq_false hb]
   |_=>rfl
  exact qX (by rw [←e1];exact h) hx hk
 case vec sz es' tok=>
  cases hb:beq sz size with
  |false=>rw [hb] at h;cases h
  |true=>
   rw [hb] at h;injection h with h;subst h
   exact qX (by simp [gv,eq_of_beq_eq_true hb]) hx hk
 case row sz id off n=>
  split at h
  ·rename_i cs hid
   cases hb:(beq sz size&&ble ((off+n)*size) cs.length) with
   |false=>rw [hb] at h;cases h
   |true=>
    rw [hb] at h;injection h with h;subst h
    simp only [and_eq_true] at hb
    have hsz:=eq_of_beq_eq_true hb.1
    have hle:=le_of_ble_eq_true hb.2
    subst hsz
    obtain ⟨b,c,h1,h2,h3,h4,h5,rfl⟩:=hx.row_inv
    obtain ⟨b',q1,⟨us,t,q2,q3,q4,q5⟩,_⟩:=r.obj id _ hid rfl
    rw [h1] at q1;injection q1 with q1;subst q1
    rw [add_mul] at hle
    have hl:((cs.drop (off*sz)).take (n*sz)).length=n*sz:=by simp;omega
    obtain ⟨k1,k2,k3⟩:=ek hl
    have hv:=(q4.drop (off*sz)).take (n*sz)
    have hl2:(((us.take cs.length).drop (off*sz)).take (n*sz)).length=n*sz:=by simp;omega
    rw [k1,k3]
    refine ⟨_,vX hk hl2 (λu hu=>q5 u (mem_of_mem_drop (mem_of_mem_take hu))) (λj v hv=> ?_),hv,k2⟩
    rw [cell?,q2]
    simp only [getElem?_take,getElem?_drop] at hv
    split at hv
    ·split at hv
     ·simpa using hv
     ·cases hv
    ·cases hv
  ·cases h
 case sl id off n cap=>
  split at h
  ·rename_i cs hid
   cases hb:ble (off+n*size) cs.length with
   |false=>rw [hb] at h;cases h
   |true=>
    rw [hb] at h;injection h with h;subst h
    have hle:=le_of_ble_eq_true hb
    obtain ⟨b,h1,rfl⟩:=hx.sl_inv
    obtain ⟨b',q1,⟨us,t,q2,q4,q5⟩,_⟩:=r.obj id _ hid rfl
    rw [h1] at q1;injection q1 with q1;subst q1
    have hl:((cs.drop off).take (n*size)).length=n*size:=by simp;omega
    obtain ⟨k1,k2,k3⟩:=ek hl
    have hv:=(q4.drop off).take (n*size)
    have hl2:((us.drop off).take (n*size)).length=n*size:=by rw [hv.1];exact hl
    rw [k1,k3]
    refine ⟨_,vX hk hl2 (λu hu=>q5 u (mem_of_mem_drop (mem_of_mem_take hu))) (λj v hv=> ?_),hv,k2⟩
    rw [cell?,q2]
    simp only [getElem?_take,getElem?_drop] at hv
    split at hv
    ·simpa using hv
    ·cases hv
  ·rename_i cs hid
   cases hb:ble (off+n*size) cs.length with
   |false=>rw [hb] at h;cases h
   |true=>
    rw [hb] at h;injection h with h;subst h
    have hle:=le_of_ble_eq_true hb
    obtain ⟨b,h1,rfl⟩:=hx.sl_inv
    obtain ⟨b',q1,⟨us,t,q2,q3,q4,q5⟩,_⟩:=r.obj id _ hid rfl
    rw [h1] at q1;injection q1 with q1;subst q1
    have hl:((cs.drop off).take (n*size)).length=n*size:=by simp;omega
    obtain ⟨k1,k2,k3⟩:=ek hl
    have hv:=(q4.drop off).take (n*size)
    have hl2:(((us.take cs.length).drop off).take (n*size)).length=n*size:=by rw [hv.1];exact hl
    rw [k1,k3]
    refine ⟨_,vX hk hl2 (λu hu=>q5 u (mem_of_mem_drop (mem_of_mem_take hu))) (λj v hv=> ?_),hv,k2⟩
    rw [cell?,q2]
    simp only [getElem?_take,getElem?_drop] at hv
    split at hv
    ·split at hv
     ·simpa using hv
     ·cases hv
    ·cases hv
  ·cases h
def VT.kill (T:VT)(id:Nat):VT:={T with objs:=T.objs.set id .gone}
theorem RW.kill {g:Gh}{T:VT}{w:World}(r:RW g T w){id b:Nat}{o:VO}(hid:T.objs[id]?=some o)(hl:o.live=true)(hb:g.obj id=some b):RW g (T.kill id) w:=
 (r.setObj hid hl hb (o':=.gone) ⟨rfl,rfl,rfl⟩ rfl (λ_ _=>rfl) rfl (λh=>by cases h)).1
theorem ni {g:Gh}{T:VT}{w:World}(r:RW g T w){id b:Nat}{o:VO}(hid:T.objs[id]?=some o)(hl:o.live=true)(hb:g.obj id=some b):rM g (T.kill id) b where
 fr:=by obtain ⟨b',h1,_,h3,_⟩:=r.obj id o hid hl;rw [hb] at h1;injection h1 with h1;subst h1;exact h3
 st:=by obtain ⟨b',h1,_,_,h3⟩:=r.obj id o hid hl;rw [hb] at h1;injection h1 with h1;subst h1;exact h3
 obj:=λi oi h1 h2 h3=>by
  simp only [VT.kill,getElem?_set] at h1
  split at h1
  ·split at h1
   ·injection h1 with h1;subst h1;cases h2
   ·cases h1
  ·rename_i hne
   exact hne (r.inj id i o oi b hid hl h1 h2 hb h3)
 tl:=λk x hx h=>r.tobj id o b k x hid hl hb hx h
theorem q9 (T:VT)(id:Nat):(T.kill id).objs.length=T.objs.length:=by simp [VT.kill]
def VT.newRow (T:VT)(cs:List TV):VT:={T with objs:=T.objs++ [.row cs]}
theorem zR (T:VT)(cs:List TV):(T.newRow cs).objs.length=T.objs.length+1:=by simp [VT.newRow]
theorem iX (r:RW g T w){t tx ty e:TypeId}{i:TypeInfo}{z:Value}(ht:P.underlying t=some (.slice e))(hi:P.info? e=some i)(hz:i.zero=some z)(hzs:z.cells.size=i.size)
  {cs cs2:List TV} {a:Option Addr} {n n2 c:Nat} {us:List Value} {x:Value} {news:List Value} (hn:cs.length=n*i.size) (h5:VRs g w cs us) (h8:∀u∈us,u.oneCell'=true) (hz1:∀u∈z.cells.toList,u.oneCell'=true)
  (hold:(firstCells i.size n (.slice a n c)).run P w.drew=.ok us.toArray w.drew)
  (hs:Src P i.size tx x n2 news w) (k2:VRs g w cs2 news) (hroom:c<n+n2) (hb:(n+n2)*(i.bytes+1)≤140737488355328):
  ∃u g' w',(append_ #[t,tx] ty #[.slice a n c,x]).run P w=.ok u w'∧VR g' w' (.row i.size T.objs.length 0 (n+n2)) u∧Evo g w g' w'∧RW g' (T.newRow (cs++cs2)) w'∧Gr w w':=by
 rw [Nat.mul_add,mul_one] at hb
 have hrun:=run_append_grow_src (P:=P) w t tx ty e i z ht hi hz a n c us hold x n2 news hs hroom (by omega) (growslice_fits (bytes:=i.bytes) hroom (by omega))
 have hge:=grownCap_ge w (n+n2) c e
 have hle:=grownCap_le_maxLen w (n+n2) c e (by unfold maxLen;omega)
 generalize hcap:grownCap w (n+n2) c e=cap at hrun hge hle
 have hnl:=hs.newsLen
 have hul:us.length=n*i.size:=by rw [h5.1,hn]
 have hz0:∀u∈(zeroCells z.cells (cap-(n+n2))).toList,u.oneCell'=true:=by
  intro u hu
  rw [mem_toList_iff] at hu
  obtain ⟨j,hj,rfl⟩:=getElem_of_mem hu
  rw [size_zeroCells] at hj
  have hzp:0<z.cells.size:=by
   rcases Nat.eq_zero_or_pos z.cells.size with h0 | h0
   ·rw [h0,Nat.mul_zero] at hj;omega
   ·exact h0
  have:(zeroCells z.cells (cap-(n+n2)))[j]'(by rw [size_zeroCells];exact hj)=z.cells[j%z.cells.size]'(mod_lt _ hzp):=by
   simp only [zeroCells,getElem_map,getElem_range]
   exact getElem!_pos z.cells (j%z.cells.size) (mod_lt _ hzp)
  rw [this]
  exact hz1 _ (mem_toList_iff.2 (getElem_mem _))
 have hxs:((us++news).toArray++zeroCells z.cells (cap-(n+n2))).size=cap*i.size:=by
  simp only [Array.size_append,size_toArray,length_append,size_zeroCells,hul,hnl,hzs,Nat.sub_mul,add_mul]
  have:(n+n2)*i.size≤cap*i.size:=Nat.mul_le_mul_right _ hge
  rw [add_mul] at this
  omega
 have e0:((us++news).toArray++zeroCells z.cells (cap-(n+n2)))=(us++news++(zeroCells z.cells (cap-(n+n2))).toList).toArray:=by
  apply ext'
  simp
 rw [e0] at hrun hxs
 have hgr:Gr w (w.drew.alloc (.cells (us++news++(zeroCells z.cells (cap-(n+n2))).toList).toArray e)):=(Gr.refl w).drew.alloc _
 have hnew:(w.drew.alloc (.cells (us++news++(zeroCells z.cells (cap-(n+n2))).toList).toArray e)).heap[w.heap.size]?=some (.cells (us++news++(zeroCells z.cells (cap-(n+n2))).toList).toArray e):=heap_alloc_new w.drew _
 generalize w.drew.alloc (.cells (us++news++(zeroCells z.cells (cap-(n+n2))).toList).toArray e)=w' at*
 have e1:=Evo.of_gr r hgr
 have hl2:(cs++cs2).length=(us++news).length:=by simp [h5.1,k2.1]
 have ro:OR g w' w.heap.size (.row (cs++cs2)):=by
  refine ⟨_,e,hnew,?_,?_,?_⟩
  ·rw [hl2];simp
  ·rw [hl2,take_left']
   ·exact (h5.app k2).mono e1
   ·rfl
  ·intro u hu
   rw [hl2,take_left' rfl] at hu
   rcases mem_append.1 hu with hu | hu
   ·exact h8 u hu
   ·exact hs.one u hu
 have r1:=(r.gr hgr).addObj (r.fresh (le_refl _)) (o:=.row (cs++cs2)) rfl ro
 have e2:=e1.trans (Evo.addObj (w:=w') (b:=w.heap.size) (r.out T.objs.length (le_refl _)))
 have hlt:w.heap.size<w'.heap.size:=(Array.getElem?_eq_some_iff.1 hnew).1
 have hcz:bg w' w.heap.size=cap*i.size:=by rw [aY hnew];exact hxs
 refine ⟨_,_,_,hrun,?_,e2,r1,hgr⟩
 have:=VR.row (g:=g.addObj T.objs.length w.heap.size) (w:=w') (size:=i.size) (id:=T.objs.length) (off:=0) (n:=n+n2) (b:=w.heap.size) (c:=cap) (by simp [Gh.addObj]) hlt hge hle (by rw [hcz,zero_add])
 rw [zero_mul] at this
 exact this
theorem Dy (r:RW g T w){t tx ty e:TypeId}{i:TypeInfo}(ht:P.underlying t=some (.slice e))(hi:P.info? e=some i){id n n2 b c:Nat}{cs cs2:List TV}{x:Value}{news:List Value}
  (hid:T.objs[id]?=some (.row cs)) (hb:g.obj id=some b) (hm:c≤maxLen) (hc:c*i.size=bg w b) (hn:n*i.size≤cs.length)
  (hs:Src P i.size tx x n2 news w) (k2:VRs g w cs2 news) (hroom:n+n2≤c):
  ∃u g' w',(append_ #[t,tx] ty #[.slice (some ⟨b,0,none⟩) n c,x]).run P w=.ok u w'∧VR g' w' (.row i.size T.objs.length 0 (n+n2)) u∧Evo g w g' w'∧RW g' ((T.kill id).newRow (cs.take (n*i.size)++cs2)) w'∧
   ∀c',c' ≠b→w'.heap[c']?=w.heap[c']?:=by
 obtain ⟨b',q1,⟨us,t0,q2,q3,q4,q5⟩,q6,q7⟩:=r.obj id _ hid rfl
 rw [hb] at q1;injection q1 with q1;subst q1
 have hnl:=hs.newsLen
 have hus:us.length=c*i.size:=by rw [hc,aY q2];simp
 have hmul:(n+n2)*i.size≤c*i.size:=Nat.mul_le_mul_right _ hroom
 rw [add_mul] at hmul
 have hst:=run_storeCells_at (P:=P) b (n*i.size) t0 news 0 us.toArray w q2 (by simp;omega) hs.one
 simp only [add_zero] at hst
 have hrun:(append_ #[t,tx] ty #[.slice (some ⟨b,0,none⟩) n c,x]).run P w=.ok (.slice (some ⟨b,0,none⟩) (n+n2) c) (w.setRow b (us.take (n*i.size)++news++us.drop (n*i.size+news.length)).toArray):=by
  rcases hs.kind with ⟨e',hk⟩ | hk<;>simp [append_,run_underlying ht,run_underlying hk,sizeOf,typeInfo,hi,hs.len,hroom,hs.cells,Addr.add_lit,hst]
 have hsr:=setRow_heap w b _ (us.take (n*i.size)++news++us.drop (n*i.size+news.length)).toArray t0 (0,0) q2
 have hl':(us.take (n*i.size)++news++us.drop (n*i.size+news.length)).length=us.length:=by simp;omega
 have hcs:bg (w.setRow b (us.take (n*i.size)++news++us.drop (n*i.size+news.length)).toArray) b=bg w b:=by
  rw [aY hsr,aY q2,size_toArray,size_toArray,hl']
 have hoth:∀c',c' ≠b→(w.setRow b (us.take (n*i.size)++news++us.drop (n*i.size+news.length)).toArray).heap[c']?=w.heap[c']?:=λc' h=>setRow_other w b c' _ h
 obtain ⟨r1,e1⟩:=r.setObj hid rfl hb (o':=.gone) (w':=w.setRow b (us.take (n*i.size)++news++us.drop (n*i.size+news.length)).toArray) ⟨rfl,rfl,rfl⟩ (by simp) hoth hcs (λh=>by cases h)
 have f:rM g (T.kill id) b:=ni r hid rfl hb
 have ro:OR g (w.setRow b (us.take (n*i.size)++news++us.drop (n*i.size+news.length)).toArray) b (.row (cs.take (n*i.size)++cs2)):=by
  have h1:(cs.take (n*i.size)++cs2).length=n*i.size+news.length:=by simp [k2.1];omega
  have h2:(us.take (n*i.size)++news++us.drop (n*i.size+news.length)).take (n*i.size+news.length)=us.take (n*i.size)++news:=by
   rw [take_left' (by simp;omega)]
  refine ⟨_,t0,hsr,?_,?_,?_⟩
  ·rw [h1,hl'];omega
  ·rw [h1]
   rw [h2]
   have h3:=(q4.take (n*i.size)).app k2
   rw [List.take_take,min_eq_left hn] at h3
   exact h3.mono e1
  ·intro u hu
   rw [h1,h2] at hu
   rcases mem_append.1 hu with hu | hu
   ·rw [←min_eq_left hn,←List.take_take] at hu
    exact q5 u (mem_of_mem_take hu)
   ·exact hs.one u hu
 have r2:=RW.addObj (T:=T.kill id) r1 f (o:=.row (cs.take (n*i.size)++cs2)) rfl ro
 rw [q9] at r2
 have e2:=e1.trans (Evo.addObj (w:=w.setRow b (us.take (n*i.size)++news++us.drop (n*i.size+news.length)).toArray) (b:=b) (r.out T.objs.length (le_refl _)))
 have hlt:b<w.heap.size:=(Array.getElem?_eq_some_iff.1 q2).1
 refine ⟨_,_,_,hrun,?_,e2,r2,hoth⟩
 have:=VR.row (g:=g.addObj T.objs.length b) (w:=w.setRow b (us.take (n*i.size)++news++us.drop (n*i.size+news.length)).toArray) (size:=i.size) (id:=T.objs.length) (off:=0) (n:=n+n2) (b:=b) (c:=c) (by simp [Gh.addObj]) (by simpa using hlt) hroom hm (by rw [hcs,zero_add];exact hc)
 rw [zero_mul] at this
 exact this
def rV (P:Program)(ro:Nat)(T:VT)(t tx:TypeId)(s x:TV):Option (TV × VT):=match P.underlying t with
 |some (.slice e)=>match P.info? e with
  |some i=>match i.zero,ci T i.size x with
   |some z,some es2=>match es2 with
    |[]=>(match s with
     | .val (.slice none 0 0)=>some (s,T)
     | .vec .. =>some (s,T)
     | .row .. =>some (s,T)
     |_=>none)
    |_::_=>bif decide (z.cells.size=i.size)&&z.cells.toList.all oneCell' &&fQ (P.underlying tx) then (match s with
     | .val (.slice none 0 0)=>bif ble (es2.length*(i.bytes+1)) 140737488355328 then some (.row i.size T.objs.length 0 es2.length,T.newRow es2.flatten) else none
     | .vec sz es .full=>bif beq sz i.size&&ble ((es.length+es2.length)*(i.bytes+1)) 140737488355328 then some (.row i.size T.objs.length 0 (es.length+es2.length),T.newRow (es.flatten++es2.flatten)) else none
     | .row sz id off n=>(match T.objs[id]? with
      |some (.row cs)=>bif beq sz i.size&&beq off 0&&ble ro id&&ble (n*i.size) cs.length&&ble ((n+es2.length)*(i.bytes+1)) 140737488355328 then some (.row i.size T.objs.length 0 (n+es2.length),(T.kill id).newRow (cs.take (n*i.size)++es2.flatten)) else none
      |_=>none)
     |_=>none) else none
   |_,_=>none
  |none=>none
 |_=>none
theorem eo (T:VT)(cs:List TV):(T.newRow cs).objs.take T.objs.length=T.objs:=by simp [VT.newRow]
theorem Dz (r:RW g T w){ro:Nat}{t tx ty:TypeId}{s x y:TV}{us ux:Value}{T':VT}(h:rV P ro T t tx s x=some (y,T'))(hs:VR g w s us)(hx:VR g w x ux)  (hk0:fQ (P.underlying tx)=true):
  ∃u g' w',(append_ #[t,tx] ty #[us,ux]).run P w=.ok u w'∧VR g' w' y u∧Evo g w g' w'∧RW g' T' w'∧Fix ro g T w T' w':=by
 unfold rV at h
 split at h
 ·rename_i e ht
  split at h
  ·rename_i i hi
   split at h
   ·rename_i z es2 hz hr2
    obtain ⟨news,sr,k2,z2⟩:=kP (P:=P) r hr2 hx (mE hk0)
    have hfl2:=bp z2
    split at h
    ·have sr0:Src P i.size tx ux 0 news w:=sr
     have none_ok:∀{a n c},us=.slice a n c→n≤c→∃u g' w',(append_ #[t,tx] ty #[us,ux]).run P w=.ok u w'∧VR g' w' s u∧Evo g w g' w'∧RW g' T w'∧Fix ro g T w T w':=by
      intro a n c h1 h2
      have:=gN (ty:=ty) ht hi sr0 (a:=a) h2
      rw [←h1] at this
      exact ⟨_,g,w,this,hs,Evo.refl _ _,r,Fix.refl _ _ _ _⟩
     split at h
     ·injection h with h;injection h with h1 h2;subst h1 h2
      exact none_ok hs.val_inv (le_refl _)
     ·injection h with h;injection h with h1 h2;subst h1 h2
      rcases hs.vec_inv with ⟨h1,_⟩ | ⟨b,o,c,us',h1,h2,_⟩ | ⟨a,h1,_⟩
      ·exact none_ok h1 (le_refl _)
      ·exact none_ok h1 h2
      ·exact none_ok h1 (le_refl _)
     ·injection h with h;injection h with h1 h2;subst h1 h2
      obtain ⟨b,c,_,_,h3,_,_,h1⟩:=hs.row_inv
      exact none_ok h1 h3
     ·cases h
    ·rename_i q0 qs
     cases hb:(decide (z.cells.size=i.size)&&z.cells.toList.all oneCell' &&fQ (P.underlying tx)) with
     |false=>rw [hb] at h;cases h
     |true=>
      rw [hb] at h
      simp only [and_eq_true,decide_eq_true_eq] at hb
      obtain ⟨⟨hz1,hz2⟩,hk⟩:=hb
      simp only [cond_true] at h
      have hz3:∀u∈z.cells.toList,u.oneCell'=true:=all_eq_true.1 hz2
      split at h
      ·cases hb2:ble ((q0::qs).length*(i.bytes+1)) 140737488355328 with
       |false=>rw [hb2] at h;cases h
       |true=>
        rw [hb2] at h
        injection h with h;injection h with h1 h2;subst h1 h2
        rw [hs.val_inv]
        obtain ⟨u,g',w',e1,e2,e3,e4,e5⟩:=iX (ty:=ty) r ht hi hz hz1 (cs:= []) (a:=none) (n:=0) (c:=0) (us:= []) (by simp) (VRs.nil g w) (by simp) hz3 (run_firstCells_none w.drew i.size 0 0 0) sr k2 (by simp) (by simpa using le_of_ble_eq_true hb2)
        rw [zero_add] at e2
        exact ⟨u,g',w',e1,e2,e3,by simpa using e4,Fix.of_same (Same.of_gr r e5) (eo _ _)⟩
      ·rename_i sz es
       cases hb2:(beq sz i.size&&ble ((es.length+(q0::qs).length)*(i.bytes+1)) 140737488355328) with
       |false=>rw [hb2] at h;cases h
       |true=>
        rw [hb2] at h
        simp only [and_eq_true] at hb2
        have hsz:=eq_of_beq_eq_true hb2.1
        subst hsz
        injection h with h;injection h with h1 h2;subst h1 h2
        rcases hs.vec_inv with ⟨rfl,rfl,_⟩ | ⟨b,o,c,us',rfl,f1,f2,f3,f4,f5,f6,f7,f8⟩ | ⟨a,rfl,rfl,_⟩
        rotate_left 2
        ·obtain ⟨u,g',w',e1,e2,e3,e4,e5⟩:=iX (ty:=ty) r ht hi hz hz1 (cs:= []) (a:=some a) (n:=0) (c:=0) (us:= []) (by simp) (VRs.nil g w) (by simp) hz3 (by simp [firstCells,loadCells,loadCellsFrom]) sr k2 (by simp) (by simpa using le_of_ble_eq_true hb2.2)
         exact ⟨u,g',w',e1,e2,e3,by simpa using e4,Fix.of_same (Same.of_gr r e5) (eo _ _)⟩
        ·obtain ⟨u,g',w',e1,e2,e3,e4,e5⟩:=iX (ty:=ty) r ht hi hz hz1 (cs:= []) (a:=none) (n:=0) (c:=0) (us:= []) (by simp) (VRs.nil g w) (by simp) hz3 (run_firstCells_none w.drew i.size 0 0 0) sr k2 (by simp) (by simpa using le_of_ble_eq_true hb2.2)
         exact ⟨u,g',w',e1,e2,e3,by simpa using e4,Fix.of_same (Same.of_gr r e5) (eo _ _)⟩
        ·have hcf:c=es.length:=f4
         have hul:us'.length=es.length*i.size:=by rw [f5.1,bp f3]
         have hold:(firstCells i.size es.length (.slice (some ⟨b,o,none⟩) es.length c)).run P w.drew=.ok us'.toArray w.drew:=by
          have:=run_loadCells_list (P:=P) w.drew ⟨b,o,none⟩ us' (λj v hv=>by rw [Addr.add_none];exact f7 j v hv)
          rw [hul] at this
          simpa [firstCells] using this
         obtain ⟨u,g',w',e1,e2,e3,e4,e5⟩:=iX (ty:=ty) r ht hi hz hz1 (cs:=es.flatten) (a:=some ⟨b,o,none⟩) (n:=es.length) (c:=c) (us:=us') (bp f3) f5 f8 hz3 hold sr k2 (by simp;omega) (le_of_ble_eq_true hb2.2)
         exact ⟨u,g',w',e1,e2,e3,e4,Fix.of_same (Same.of_gr r e5) (eo _ _)⟩
      ·rename_i sz id off n
       split at h
       ·rename_i cs hid
        cases hb2:(beq sz i.size&&beq off 0&&ble ro id&&ble (n*i.size) cs.length&&ble ((n+(q0::qs).length)*(i.bytes+1)) 140737488355328) with
        |false=>rw [hb2] at h;cases h
        |true=>
         rw [hb2] at h
         simp only [and_eq_true] at hb2
         obtain ⟨⟨⟨⟨hsz,hoff⟩,hro⟩,hn⟩,hbig⟩:=hb2
         have hsz:=eq_of_beq_eq_true hsz
         have hoff:=eq_of_beq_eq_true hoff
         have hro:=le_of_ble_eq_true hro
         have hn:=le_of_ble_eq_true hn
         have hbig:=le_of_ble_eq_true hbig
         subst hsz hoff
         injection h with h;injection h with h1 h2;subst h1 h2
         obtain ⟨b,c,f1,f2,f3,f4,f5,rfl⟩:=hs.row_inv
         obtain ⟨b',q1,⟨us',t0,q2,q3,q4,q5⟩,_⟩:=r.obj id _ hid rfl
         rw [f1] at q1;injection q1 with q1;subst q1
         simp only [zero_add] at f5
         rw [zero_mul]
         have hlt:id<T.objs.length:=(List.getElem?_eq_some_iff.1 hid).1
         have fx:∀(w':World) (cs':List TV),(∀c',c' ≠b→c' <w.heap.size→w'.heap[c']?=w.heap[c']?)→Fix ro g T w ((T.kill id).newRow cs') w':=by
          intro w' cs' ho
          refine ⟨by rw [zR,q9];omega,λj hj hl=> ?_,λj oj bj hj h1 h2 h3=> ?_⟩
          ·simp only [VT.newRow,VT.kill]
           rw [List.getElem?_append_left (by simpa using hl),getElem?_set,if_neg (by omega)]
          ·obtain ⟨b2,p1,p2,_⟩:=r.obj j oj h1 h2
           rw [h3] at p1;injection p1 with p1;subst p1
           refine ho bj (λhbb=> ?_) (p2.lt h2)
           have:=r.inj j id oj _ bj h1 h2 hid rfl h3 (hbb▸f1)
           omega
         rcases lt_or_ge c (n+(q0::qs).length) with hgr | hrm
         ·have hul:((us'.take cs.length).take (n*i.size)).length=n*i.size:=by simp;omega
          have hold:(firstCells i.size n (.slice (some ⟨b,0,none⟩) n c)).run P w.drew=.ok ((us'.take cs.length).take (n*i.size)).toArray w.drew:=by
           have:=run_loadCells_list (P:=P) w.drew ⟨b,0,none⟩ ((us'.take cs.length).take (n*i.size)) (λj v hv=>by
            rw [Addr.add_none]
            simp only [zero_add]
            show w.cell? _=_
            rw [cell?,q2]
            simp only [getElem?_take] at hv
            split at hv
            ·split at hv
             ·simpa using hv
             ·cases hv
            ·cases hv)
           rw [hul] at this
           simpa [firstCells] using this
          have rk:=r.kill hid rfl f1
          obtain ⟨u,g',w',e1,e2,e3,e4,e5⟩:=iX (ty:=ty) rk ht hi hz hz1 (cs:=cs.take (n*i.size)) (a:=some ⟨b,0,none⟩) (n:=n) (c:=c) (us:=(us'.take cs.length).take (n*i.size)) (by simp;omega) (q4.take _) (λu hu=>q5 u (mem_of_mem_take hu)) hz3 hold sr k2 hgr hbig
          rw [q9] at e2
          refine ⟨u,g',w',e1,e2,e3,e4,fx w' _ λc' _ hl=>e5.heap hl⟩
         ·obtain ⟨u,g',w',e1,e2,e3,e4,e5⟩:=Dy (ty:=ty) r ht hi hid f1 f4 f5 hn sr k2 hrm
          exact ⟨u,g',w',e1,e2,e3,e4,fx w' _ λc' hc' _=>e5 c' hc'⟩
       ·cases h
      ·cases h
   ·cases h
  ·cases h
 ·cases h
end
section
variable {P:Program}{g:Gh}{T:VT}{w:World}
def vY (P:Program)(t:TypeId)(x:TV):Option TV:=match P.underlying t,x with
 |some (.array n _),.vec _ (e::es) _=>bif ble n (es.length+1) then some (.elt (e::es).flatten) else none
 |some (.array n _),.row size id off m=>bif ble n m then some (.ptr id (off*size)) else none
 |_,_=>none
theorem Bq {g:Gh}{w:World}{t:TypeId}{x y:TV}{u:Value}(h:vY P t x=some y)(hx:VR g w x u):Looks0 P g w (arrayAt t u) y:=by
 unfold vY at h
 split at h
 ·rename_i n k sz e es tok hu
  cases hb:ble n (es.length+1) with
  |false=>rw [hb] at h;cases h
  |true=>
   rw [hb] at h
   have hb:=le_of_ble_eq_true hb
   injection h with h;subst h
   rcases hx.vec_inv with ⟨_,h2,_⟩ | ⟨b,o,c,us,rfl,f1,f2,f3,f4,f5,f6,f7,f8⟩ | ⟨_,_,h2,_⟩
   rotate_left 2
   ·cases h2
   ·cases h2
   ·refine .of_ok (.mk_elt f5 f6 f7 f8) λw'=> ?_
    have:¬(es.length+1<n):=by omega
    simp [arrayAt,run_underlying hu,this]
 ·rename_i n k sz id off m hu
  cases hb:ble n m with
  |false=>rw [hb] at h;cases h
  |true=>
   rw [hb] at h
   have hb:=le_of_ble_eq_true hb
   injection h with h;subst h
   obtain ⟨b,c,k1,k2,k3,k4,k5,rfl⟩:=hx.row_inv
   refine .of_ok (.ptr k1) λw'=> ?_
   have:¬(m<n):=by omega
   simp [arrayAt,run_underlying hu,this]
 ·cases h
def tj (P:Program)(t:TypeId)(x i:TV):Option TV:=match P.underlying t,i,x with
 |some (.array n e),.val (.int _ z),.agg cs=>match P.info? e with
  |some inf=>bif decide (0≤z)&&decide (z<n) then vw P e cs (z.toNat*inf.size) else none
  |none=>none
 |_,_,_=>none
theorem zS {g:Gh}{w:World}{t:TypeId}{x i y:TV}{u v:Value}(h:tj P t x i=some y)(hx:VR g w x u)(hi:VR g w i v):Looks0 P g w (Instr.index t u v) y:=by
 unfold tj at h
 split at h
 ·rename_i n e k z cs hu
  split at h
  ·rename_i inf hinf
   cases hb:(decide (0≤z)&&decide (z<n)) with
   |false=>rw [hb] at h;cases h
   |true=>
    rw [hb] at h
    simp only [and_eq_true,decide_eq_true_eq] at hb
    rw [hi.val_inv]
    obtain ⟨us,rfl,h1⟩:=hx.agg_inv
    obtain ⟨v',h2,h3⟩:=vP (P:=P) h h1
    exact ⟨v',h2,λw'=>by simp [Instr.index,asIntOf,run_underlying hu,hb.1,hb.2,be hinf,h3 w']⟩
  ·cases h
 ·cases h
def mF (P:Program)(t:TypeId)(x i:TV):Option TV:=match i,x with
 | .val (.int _ z),.row size id off n=>match P.underlying t with
  |some (.slice e)=>match P.info? e with
   |some inf=>bif beq inf.size size&&decide (0≤z)&&decide (z<n) then some (.ptr id (off*size+z.toNat*size)) else none
   |none=>none
  |_=>none
 |_,_=>none
theorem zT {t:TypeId}{x i y:TV}{u v:Value}(h:mF P t x i=some y)(hx:VR g w x u)(hi:VR g w i v):Looks0 P g w (indexAt t u v) y:=by
 unfold mF at h
 split at h
 ·rename_i k z size id off n
  rw [hi.val_inv]
  split at h
  ·rename_i e hu
   split at h
   ·rename_i inf hinf
    cases hb:(beq inf.size size&&decide (0≤z)&&decide (z<n)) with
    |false=>rw [hb] at h;cases h
    |true=>
     rw [hb] at h
     simp only [and_eq_true,decide_eq_true_eq] at hb
     obtain ⟨⟨hs,h0⟩,h1⟩:=hb
     have hs:=eq_of_beq_eq_true hs
     injection h with h;subst h
     obtain ⟨b,c,h2,h3,h4,h5,h6,rfl⟩:=hx.row_inv
     exact .of_ok (.ptr h2) λw'=>by simp [indexAt,asIntOf,run_underlying hu,h0,h1,be hinf,Addr.add_none,hs]
   ·cases h
  ·cases h
 ·cases h
def bE (op:BinOp)(b:Bool):Bool:=match op with
 | .eql=>b
 |_=> !b
def zU:BinOp→Bool
 | .eql | .neq=>true
 |_=>false
def EY (P:Program)(op:BinOp)(t:TypeId)(x y:TV):Option TV:=bif zU op then (match bM x with
 |some a=>match bM y with
  |some b=>match bY P t with
   |some s=>bif s.fits a&&s.fits b then some (.val (.bool (bE op (aj a b)))) else none
   |none=>none
  |none=>none
 |none=>none) else none
theorem vq {t:TypeId}{s:KS}(h:bY P t=some s){op:BinOp}{xo yo:Operand}{a b:Value}(ha:s.fits a=true)(hb:s.fits b=true)(w:World):(eqGuard op t xo yo a b).run P w=.ok () w:=by
 obtain ⟨xs,cx,fx⟩:=c8 ha
 obtain ⟨ys,cy,fy⟩:=c8 hb
 have ok:=gz (P:=P) 6 t s h
 cases hs:s.agg with
 |true=>
  rw [cl hs cx,cl hs cy]
  have hg:=ok.guard hs
  cases op<;>simp [eqGuard,hg]
 |false=>
  have ha':∀cs,a≠ .agg cs:=λcs h=>by subst h;simp [KS.cells,hs] at cx
  have hn:a≠ .nilIface:=λh=>by
   subst h
   obtain ⟨c,hc⟩:=ok.one hs
   simp [KS.cells,hs] at cx;subst cx
   rw [hc] at fx;cases c<;>simp [aQ,CK.fit] at fx
  unfold eqGuard
  cases op<;>cases a<;>simp_all []
theorem Hg {op:BinOp}{t:TypeId}{xo yo:Operand}{x y r:TV}{u v:Value}(h:EY P op t x y=some r)(hx:VR g w x u)(hy:VR g w y v):
  Looks0 P g w (do eqGuard op t xo yo u v;binOp op t u v) r:=by
 have key:∀s,bY P t=some s→s.fits u=true→s.fits v=true→(op=.eql∨op=.neq)→
   Looks0 P g w (do eqGuard op t xo yo u v;binOp op t u v) (.val (.bool (bE op (aj u v)))):=by
  clear h hx hy
  intro s h3 h4 h5 h6
  refine .of_ok (.val _) λw'=> ?_
  have hg:=vq h3 (op:=op) (xo:=xo) (yo:=yo) h4 h5 w'
  have he:=qv h3 h4 h5 w'
  have hb:(binOp op t u v).run P w'=.ok (.bool (bE op (aj u v))) w':=by
   obtain ⟨xs,cx,fx⟩:=c8 h4
   obtain ⟨ys,cy,fy⟩:=c8 h5
   have ok:=gz (P:=P) 6 t s h3
   cases hs:s.agg with
   |true=>
    rw [cl hs cx,cl hs cy] at he ⊢
    rcases h6 with rfl | rfl<;>simp [binOp,he,bE]
   |false=>
    obtain ⟨c,hc⟩:=ok.one hs
    have fx1:∃x1,xs= [x1]∧c.fit x1=true:=by
     rw [hc] at fx
     match xs,fx with
     |[x1],fx=>simp [aQ] at fx;exact ⟨x1,rfl,fx⟩
     |[],fx=>simp [aQ] at fx
     |_::_::_,fx=>simp [aQ] at fx
    have fy1:∃y1,ys= [y1]∧c.fit y1=true:=by
     rw [hc] at fy
     match ys,fy with
     |[y1],fy=>simp [aQ] at fy;exact ⟨y1,rfl,fy⟩
     |[],fy=>simp [aQ] at fy
     |_::_::_,fy=>simp [aQ] at fy
    obtain ⟨x1,rfl,gx⟩:=fx1
    obtain ⟨y1,rfl,gy⟩:=fy1
    have eu:u=x1:=by cases u<;>simp [KS.cells,hs] at cx<;>exact cx
    have ev:v=y1:=by cases v<;>simp [KS.cells,hs] at cy<;>exact cy
    subst eu ev
    cases c with
    |int k=>
     cases u<;>simp [CK.fit] at gx
     cases v<;>simp [CK.fit] at gy
     subst gx gy
     rcases h6 with rfl | rfl<;>simp [binOp,Op.intCmp,aj,cH,bne,bE]
    |bool=>
     cases u<;>simp [CK.fit] at gx
     cases v<;>simp [CK.fit] at gy
     rcases h6 with rfl | rfl<;>simp [binOp,he,bE]
    |str=>
     cases u<;>simp [CK.fit] at gx
     cases v<;>simp [CK.fit] at gy
     rcases h6 with rfl | rfl<;>simp [binOp,Op.stringOp,aj,cH,bE,beq_toListBytes]
  simp only [run_bind,hg,andThen_ok,hb]
 unfold EY at h
 cases ho:zU op with
 |false=>rw [ho] at h;cases h
 |true=>
  rw [ho] at h
  simp only [cond_true] at h
  have h6:op=.eql∨op=.neq:=by cases op<;>simp [zU] at ho<;>simp
  cases h1:bM x with
  |none=>rw [h1] at h;cases h
  |some a=>
   cases h2:bM y with
   |none=>rw [h1,h2] at h;cases h
   |some b=>
    cases h3:bY P t with
    |none=>rw [h1,h2,h3] at h;cases h
    |some s=>
     rw [h1,h2,h3] at h
     simp only at h
     have e1:=bS h1 hx
     have e2:=bS h2 hy
     subst e1 e2
     cases hb:(s.fits u&&s.fits v) with
     |false=>rw [hb] at h;cases h
     |true=>
      rw [hb] at h
      simp only [and_eq_true] at hb
      injection h with h;subst h
      exact key s h3 hb.1 hb.2 h6
end
section
variable {P:Program}{g:Gh}{T:VT}{w:World}
def zV (n:Nat):Option TV→Option Nat
 |none=>some n
 |some y=>eZ y
def mG (P:Program)(t:TypeId)(x:TV)(lo hi mx:Option TV):Option TV:=match x,mx with
 | .row size id off n,none=>match P.underlying t with
  |some (.slice e)=>match P.info? e with
   |some inf=>match gq lo,zV n hi with
    |some l,some h=>bif beq inf.size size&&ble l h&&ble h n then (match l with
     | 0=>some (.row size id off h)
     |_+1=>bif beq l h then some (.vec size [] (.past id (off+l))) else some (.row size id (off+l) (h-l))) else none
    |_,_=>none
   |none=>none
  |_=>none
 |_,_=>none
theorem zW {t:TypeId}{x y:TV}{lo hi mx:Option TV}{u:Value}{ul uh um:Option Value}(h:mG P t x lo hi mx=some y)(hx:VR g w x u)(hl:BR g w lo ul)(hh:BR g w hi uh)(hm:BR g w mx um):
  Looks0 P g w (sliceAt t u ul uh um) y:=by
 unfold mG at h
 split at h
 ·rename_i size id off n
  split at h
  ·rename_i e hu
   split at h
   ·rename_i inf hinf
    split at h
    ·rename_i l hv h1 h2
     cases hb:(beq inf.size size&&ble l hv&&ble hv n) with
     |false=>rw [hb] at h;cases h
     |true=>
      rw [hb] at h
      simp only [and_eq_true] at hb
      obtain ⟨⟨b1,b2⟩,b3⟩:=hb
      have b1:=eq_of_beq_eq_true b1
      have b2:=le_of_ble_eq_true b2
      have b3:=le_of_ble_eq_true b3
      subst b1
      obtain ⟨b,c,k1,k2,k3,k4,k5,rfl⟩:=hx.row_inv
      have hum:um=none:=by cases um<;>simp [BR] at hm;rfl
      subst hum
      have hrun:∀w':World,(sliceAt t (.slice (some ⟨b,off*inf.size,none⟩) n c) ul uh none).run P w'=.ok (.slice (if c=l then some ⟨b,off*inf.size,none⟩ else some ⟨b,off*inf.size+l*inf.size,none⟩) (hv-l) (c-l)) w':=by
       intro w'
       have:=fa (P:=P) (isS:=true) (len:=n) (cap:=c) h1 (by cases hi<;>first | exact h2 | simp [zV]) hl hh b2 (by omega) w'
       simp only [sliceAt,Instr.slice,run_bind,run_underlying hu,andThen_ok,this,be hinf,run_pure,map_some,Addr.add_none]
      cases l with
      |zero=>
       simp only [cond_true] at h
       injection h with h;subst h
       refine .of_ok ?_ hrun
       have e1:(if c=0 then some (⟨b,off*inf.size,none⟩:Addr) else some ⟨b,off*inf.size+0*inf.size,none⟩)=some ⟨b,off*inf.size,none⟩:=by simp
       rw [e1,sub_zero,sub_zero]
       exact .row k1 k2 (by omega) k4 k5
      |succ l'=>
       simp only [cond_true] at h
       cases hq:beq (l' +1) hv with
       |true=>
        rw [hq] at h
        have hq:=eq_of_beq_eq_true hq
        injection h with h;subst h
        refine .of_ok ?_ hrun
        rw [←hq,Nat.sub_self]
        split
        ·exact .mk_vec (us:= []) (by simp) (by omega) (by omega) (by simp) (λhlt=>absurd hlt (by omega)) (by simpa using VRs.nil g w) (by simp) (by simp) (by simp)
        ·refine .mk_vec (us:= []) (by simp) (by omega) (by omega) (by simp) (λhlt=>⟨k1,k2,?_,?_⟩) (by simpa using VRs.nil g w) (by simp) (by simp) (by simp)
         ·rw [zero_mul,add_zero,←add_mul]
         ·rw [←add_mul,←add_mul,←k5];congr 1;omega
       |false=>
        rw [hq] at h
        have hq:=Nat.ne_of_beq_eq_false hq
        injection h with h;subst h
        refine .of_ok ?_ hrun
        rw [if_neg (by omega),←add_mul]
        exact .row k1 k2 (by omega) (by omega) (by rw [←k5];congr 1;omega)
    ·cases h
   ·cases h
  ·cases h
 ·cases h
def mH (P:Program)(t:TypeId)(x:TV)(lo hi mx:Option TV):Option TV:=match x,mx with
 | .val (.slice none 0 0),none=>match P.underlying t with
  |some (.slice e)=>match P.info? e,gq lo,zV 0 hi with
   |some _,some 0,some 0=>some (.val (.slice none 0 0))
   |_,_,_=>none
  |_=>none
 |_,_=>none
theorem zX {t:TypeId}{x y:TV}{lo hi mx:Option TV}{u:Value}{ul uh um:Option Value}(h:mH P t x lo hi mx=some y)(hx:VR g w x u)(hl:BR g w lo ul)(hh:BR g w hi uh)(hm:BR g w mx um):
  Looks0 P g w (sliceAt t u ul uh um) y:=by
 unfold mH at h
 split at h
 ·split at h
  ·rename_i e hu
   split at h
   ·rename_i inf hinf h1 h2
    injection h with h;subst h
    rw [hx.val_inv]
    have hum:um=none:=by cases um<;>simp [BR] at hm;rfl
    subst hum
    refine .of_ok (.val _) λw'=> ?_
    have:=fa (P:=P) (isS:=true) (len:=0) (cap:=0) h1 (by cases hi<;>first | exact h2 | simp [zV]) hl hh (le_refl _) (by omega) w'
    simp only [sliceAt,Instr.slice,run_bind,run_underlying hu,andThen_ok,this,be hinf,run_pure,map_none,if_true,sub_zero]
   ·cases h
  ·cases h
 ·cases h
def zY (P:Program)(t:TypeId)(x:TV):Option TV:=match x,P.underlying t with
 | .row _ _ _ n,some (.slice _)=>some (.val (.int .i64 n))
 |_,_=>none
theorem DA {t ty:TypeId}{x y:TV}{u:Value}(h:zY P t x=some y)(hx:VR g w x u):Looks0 P g w (len_ #[t] ty #[u]) y:=by
 unfold zY at h
 split at h
 ·rename_i hu
  injection h with h;subst h
  obtain ⟨b,c,_,_,_,_,_,rfl⟩:=hx.row_inv
  exact .of_ok (.val _) λw'=>by simp [len_,run_underlying hu,goInt]
 ·cases h
def zZ (P:Program)(t:TypeId)(x:TV):Option TV:=match x,P.underlying t with
 | .val (.slice _ _ c),some (.slice _)=>some (.val (.int .i64 c))
 |_,_=>none
theorem DB {t ty:TypeId}{x y:TV}{u:Value}(h:zZ P t x=some y)(hx:VR g w x u):Looks0 P g w (cap_ #[t] ty #[u]) y:=by
 unfold zZ at h
 split at h
 ·rename_i hu
  injection h with h;subst h
  rw [hx.val_inv]
  exact .of_ok (.val _) λw'=>by simp [cap_,run_underlying hu,goInt]
 ·cases h
theorem lE {z:Array Value}{n m:Nat}(h:n≤m):(madeCells z m).toList.take n=fK z n:=by
 unfold madeCells fK
 apply ext_getElem?
 intro j
 simp only [getElem?_take,Array.toList_map,getElem?_map,getElem?_toList]
 by_cases hj:j<n
 ·rw [if_pos hj]
  simp [hj,Nat.lt_of_lt_of_le hj h]
 ·rw [if_neg hj]
  simp [hj]
def kQ (P:Program)(T:VT)(t:TypeId)(x y:TV):Option (TV × VT):=match x,y,P.underlying t with
 | .val (.int _ l),.val (.int _ c),some (.slice e)=>match P.info? e with
  |some i=>match i.zero with
   |some z=>bif decide (0≤l)&&decide (l≤c)&&decide ((i.bytes:Int)*c≤281474976710656)&&decide (c≤140737488355328)&&z.cells.toList.all oneCell' &&decide (0<z.cells.size) then
     some (.row i.size T.objs.length 0 l.toNat,T.newRow ((fK z.cells (l.toNat*i.size)).map .val)) else none
   |none=>none
  |none=>none
 |_,_,_=>none
theorem Br (r:RW g T w){t:TypeId}{x y res:TV}{u v:Value}{T':VT}(h:kQ P T t x y=some (res,T'))(hx:VR g w x u)(hy:VR g w y v):Does P g T w (Instr.makeSlice t u v) res T'∧T'.objs.take T.objs.length=T.objs:=by
 unfold kQ at h
 split at h
 ·rename_i kl l kc c e hu
  split at h
  ·rename_i i hi
   split at h
   ·rename_i z hz
    cases hb:(decide (0≤l)&&decide (l≤c)&&decide ((i.bytes:Int)*c≤281474976710656)&&decide (c≤140737488355328)&&z.cells.toList.all oneCell' &&decide (0<z.cells.size)) with
    |false=>rw [hb] at h;cases h
    |true=>
     rw [hb] at h
     simp only [and_eq_true,decide_eq_true_eq] at hb
     obtain ⟨⟨⟨⟨⟨h0,h1⟩,h2⟩,h3⟩,h4⟩,h5⟩:=hb
     injection h with h;injection h with e1 e2;subst e1 e2
     rw [hx.val_inv,hy.val_inv]
     refine ⟨?_,eo _ _⟩
     have hrun:=run_make (P:=P) w t e i z hu hi hz kl kc l c h0 h1 h2 (by omega)
     have hgr:Gr w (w.alloc (.cells (madeCells z.cells (c.toNat*i.size)) e)):=(Gr.refl w).alloc _
     have hnew:=heap_alloc_new w (.cells (madeCells z.cells (c.toNat*i.size)) e)
     have hlc:l.toNat*i.size≤c.toNat*i.size:=Nat.mul_le_mul_right _ (by omega)
     have hlen:((fK z.cells (l.toNat*i.size)).map TV.val).length=l.toNat*i.size:=by simp [fK]
     have ro:OR g (w.alloc (.cells (madeCells z.cells (c.toNat*i.size)) e)) w.heap.size (.row ((fK z.cells (l.toNat*i.size)).map .val)):=by
      refine ⟨(madeCells z.cells (c.toNat*i.size)).toList,e,by simpa using hnew,?_,?_,?_⟩
      ·rw [hlen];simp [size_madeCells];exact hlc
      ·rw [hlen,lE hlc];exact VRs.vals g _ _
      ·intro u hu
       have hu:=mem_of_mem_take hu
       rw [mem_toList_iff] at hu
       obtain ⟨j,hj,rfl⟩:=getElem_of_mem hu
       have:(madeCells z.cells (c.toNat*i.size))[j]=z.cells[j%z.cells.size]'(mod_lt _ h5):=by
        simp only [madeCells,getElem_map,getElem_range]
        exact getElem!_pos z.cells (j%z.cells.size) (mod_lt _ h5)
       rw [this]
       exact all_eq_true.1 h4 _ (mem_toList_iff.2 (getElem_mem _))
     generalize w.alloc (.cells (madeCells z.cells (c.toNat*i.size)) e)=w' at*
     have r1:=(r.gr hgr).addObj (r.fresh (le_refl _)) (o:=.row ((fK z.cells (l.toNat*i.size)).map .val)) rfl ro
     have e2:=(Evo.of_gr r hgr).trans (Evo.addObj (w:=w') (b:=w.heap.size) (r.out T.objs.length (le_refl _)))
     have hlt:w.heap.size<w'.heap.size:=(Array.getElem?_eq_some_iff.1 hnew).1
     have hcz:bg w' w.heap.size=c.toNat*i.size:=by rw [aY hnew,size_madeCells]
     refine ⟨_,_,_,hrun,?_,e2,r1,Same.of_gr r hgr⟩
     have:=VR.row (g:=g.addObj T.objs.length w.heap.size) (w:=w') (size:=i.size) (id:=T.objs.length) (off:=0) (n:=l.toNat) (b:=w.heap.size) (c:=c.toNat) (by simp [Gh.addObj]) hlt (by omega) (by unfold maxLen;omega) (by rw [hcz,zero_add])
     rw [zero_mul] at this
     exact this
   ·cases h
  ·cases h
 ·cases h
def kw (P:Program)(ro:Nat)(T:VT)(t:TypeId)(a x:TV):Option (TV × VT):=match a with
 | .ptr id off=>match T.objs[id]?,bd x,P.info? t with
  |some (.row cs),some new,some i=>bif beq i.size new.length&&ble (off+new.length) cs.length&&new.all dB&&ble ro id then some (.val undef,{T with objs:=T.objs.set id (.row (aU cs off new))}) else none
  |_,_,_=>none
 |_=>none
theorem rW (r:RW g T w){ro:Nat}{t:TypeId}{a x y:TV}{ua u:Value}{T':VT}(h:kw P ro T t a x=some (y,T'))(ha:VR g w a ua)(hx:VR g w x u):
  ∃g' w',(storeAt t ua u).run P w=.ok () w'∧VR g' w' y undef∧Evo g w g' w'∧RW g' T' w'∧Fix ro g T w T' w':=by
 unfold kw at h
 split at h
 ·rename_i id off
  split at h
  ·rename_i cs new i hid hc hi
   cases hb:(beq i.size new.length&&ble (off+new.length) cs.length&&new.all dB&&ble ro id) with
   |false=>rw [hb] at h;cases h
   |true=>
    rw [hb] at h
    simp only [and_eq_true] at hb
    obtain ⟨⟨⟨b1,b2⟩,h3⟩,b4⟩:=hb
    have h1:=eq_of_beq_eq_true b1
    have h2:=le_of_ble_eq_true b2
    have hr:=le_of_ble_eq_true b4
    injection h with h;injection h with e1 e2;subst e1 e2
    obtain ⟨b,hb,rfl⟩:=ha.ptr_inv
    obtain ⟨b',h4,⟨us,ty,h5,h6,h7,h8⟩,_⟩:=r.obj id _ hid rfl
    rw [hb] at h4;injection h4 with h4;subst h4
    have k:=iG hc hx
    have ho:=im h3 k
    have hl:u.cells.toList.length=new.length:=k.1
    have hrun:=run_storeCells_at (P:=P) b off ty u.cells.toList 0 us.toArray w h5 (by simp at hl ⊢;omega) ho
    simp only [add_zero,hl] at hrun
    have hsr:=setRow_heap w b _ (us.take off++u.cells.toList++us.drop (off+new.length)).toArray ty (0,0) h5
    have hll:(us.take off++u.cells.toList++us.drop (off+new.length)).length=us.length:=by simp at hl ⊢;omega
    have hcs:bg (w.setRow b (us.take off++u.cells.toList++us.drop (off+new.length)).toArray) b=bg w b:=by
     rw [aY hsr,aY h5,size_toArray,size_toArray,hll]
    have hoth:∀c,c≠b→(w.setRow b (us.take off++u.cells.toList++us.drop (off+new.length)).toArray).heap[c]?=w.heap[c]?:=λc hc=>setRow_other w b c _ hc
    obtain ⟨_,e0⟩:=r.setObj hid rfl hb (o':=.gone) (w':=w.setRow b (us.take off++u.cells.toList++us.drop (off+new.length)).toArray) ⟨rfl,rfl,rfl⟩ (by simp) hoth hcs (λh=>by cases h)
    have k2:=((((h7.take off).app k).app (h7.drop (off+new.length)))).mono e0
    have ht:(us.take off++u.cells.toList++us.drop (off+new.length)).take (aU cs off new).length=(us.take cs.length).take off++u.cells.toList++(us.take cs.length).drop (off+new.length):=by
     have hsl:(aU cs off new).length=cs.length:=by simp [aU];omega
     rw [hsl]
     apply ext_getElem?
     intro j
     rw [getElem?_take]
     have hA:(us.take off).length=off:=by simp;omega
     have hA2:((us.take cs.length).take off).length=off:=by simp;omega
     rcases lt_or_ge j cs.length with hj | hj
     ·rw [if_pos hj,append_assoc,append_assoc,getElem?_append (l₁:=us.take off),getElem?_append (l₁:=(us.take cs.length).take off),hA,hA2]
      split
      ·rename_i hjo
       simp [hjo,hj]
      ·rw [getElem?_append,getElem?_append]
       split
       ·rfl
       ·simp only [getElem?_drop,getElem?_take]
        rw [if_pos (by omega)]
     ·rw [if_neg (by omega)]
      symm
      apply List.getElem?_eq_none
      simp at hl ⊢;omega
    have o2:∀v∈(us.take off++u.cells.toList++us.drop (off+new.length)).take (aU cs off new).length,v.oneCell'=true:=by
     rw [ht]
     intro v hv
     simp only [mem_append] at hv
     rcases hv with (hv | hv) | hv
     ·exact h8 v (mem_of_mem_take hv)
     ·exact ho v hv
     ·exact h8 v (mem_of_mem_drop hv)
    obtain ⟨r',e'⟩:=r.setObj hid rfl hb (o':=.row (aU cs off new)) (w':=w.setRow b (us.take off++u.cells.toList++us.drop (off+new.length)).toArray) ⟨rfl,rfl,rfl⟩ (by simp) hoth hcs
     (λ_=>⟨_,ty,hsr,by rw [hll];simp [aU];omega,by rw [ht];exact k2,o2⟩)
    refine ⟨g,_,?_,.val _,e',r',cq r hid rfl hb hr hoth⟩
    have hs:u.cells.size=i.size:=by rw [h1,←hl];simp
    simp only [storeAt,sureAddr,storeVar,run_bind,run_pure,andThen_ok,be hi,hs]
    simpa using hrun
  ·cases h
 ·cases h
def pS:List (List TV)→Option (List Int)
 |[]=>some []
 |[.val (.int .u8 z)]::r=>(pS r).map (z:: ·)
 |_::_=>none
def z6 (l:List Int):ByteArray:=⟨(l.map λn=>ofNat n.toNat).toArray⟩
theorem rX:∀{es:List (List TV)} {l:List Int} {us:List Value},pS es=some l→VRs g w es.flatten us→us=l.map (Value.int .u8)
 |[],l,us,h,k=>by
  injection h with h;subst h
  exact List.eq_nil_of_length_eq_zero (by simpa using k.1)
 |e::es,l,us,h,k=>by
  unfold pS at h
  split at h
  ·rename_i heq;cases heq
  ·rename_i z r heq
   injection heq with h1 h2
   subst h1 h2
   simp only [map_eq_some_iff] at h
   obtain ⟨l',h,rfl⟩:=h
   simp only [List.flatten_cons,List.cons_append,List.nil_append] at k
   match us,k with
   |[],k=>have:=k.1;simp at this
   |u::us,k=>
    have h3:=(k.2 0 _ _ rfl rfl).val_inv
    subst h3
    have k':VRs g w _ us:=⟨by simpa using k.1,λj x u hx hu=>k.2 (j+1) x u hx hu⟩
    rw [rX h k'];rfl
  ·cases h
theorem z7 (l:List Int):l.foldl (λr n=>r.push (ofNat n.toNat)) ByteArray.empty=z6 l:=by
 have key:∀(l:List Int) (s:ByteArray),l.foldl (λr n=>r.push (ofNat n.toNat)) s=⟨s.data++(l.map λn=>ofNat n.toNat).toArray⟩:=by
  intro l
  induction l with
  |nil=>intro s;simp
  |cons n l ih=>
   intro s
   rw [List.foldl_cons,ih]
   congr 1
   simp [ByteArray.push]
 rw [key]
 simp [z6,ByteArray.empty,ByteArray.emptyWithCapacity]
 rfl
def fR (P:Program)(T:VT)(s d:TypeId)(x:TV):Option TV:=match P.underlying s,P.underlying d with
 |some (.slice e),some .string=>match P.underlying e with
  |some (.int .u8)=>match x with
   | .val _=>none
   |x=>match ci T 1 x with
    |some es=>(pS es).map λl=>.val (.string (z6 l))
    |none=>none
  |_=>none
 |_,_=>none
end
section
variable {P:Program}{g:Gh}{T:VT}{w:World}
theorem yl (r:RW g T w){size:Nat}{x:TV}{u:Value}{es:List (List TV)}(hnv:∀v,x≠ .val v)(h:ci T size x=some es)(hx:VR g w x u):
  (u=.slice none 0 0∧es= [])∨(∃b o c us,u=.slice (some ⟨b,o,none⟩) es.length c∧VRs g w es.flatten us∧us.length=es.length*size∧∀w',Same g T w w'→∀(j:Nat) v,us[j]?=some v→w'.cell? ⟨b,o+j,none⟩=some v)∨∃a,u=.slice (some a) 0 0∧es= []:=by
 cases x<;>simp only [ci] at h<;>try (cases h)
 case val v=>exact absurd rfl (hnv v)
 case vec sz es' tok=>
  cases hb:beq sz size with
  |false=>rw [hb] at h;cases h
  |true=>
   rw [hb] at h;injection h with h;subst h
   have hsz:=eq_of_beq_eq_true hb
   subst hsz
   rcases hx.vec_inv with ⟨h1,h2,_⟩ | ⟨b,o,c,us,h1,h2,h3,h4,h5,h6,h7,h8,h9⟩ | ⟨a,h1,h2,_⟩
   rotate_left 2
   ·exact .inr (.inr ⟨a,h1,h2⟩)
   ·exact .inl ⟨h1,h2⟩
   ·refine .inr (.inl ⟨b,o,c,us,h1,h6,by rw [h6.1,bp h4],λw' hs j v hv=> ?_⟩)
    rw [hs.st _ _ (h7 j (by rw [←h6.1];exact (List.getElem?_eq_some_iff.1 hv).1))];exact h8 j v hv
 case row sz id off n=>
  split at h
  ·rename_i cs hid
   cases hb:(beq sz size&&ble ((off+n)*size) cs.length) with
   |false=>rw [hb] at h;cases h
   |true=>
    rw [hb] at h;injection h with h;subst h
    simp only [and_eq_true] at hb
    have hsz:=eq_of_beq_eq_true hb.1
    have hle:=le_of_ble_eq_true hb.2
    subst hsz
    obtain ⟨b,c,h1,h2,h3,h4,h5,rfl⟩:=hx.row_inv
    obtain ⟨b',q1,⟨us,t,q2,q3,q4,q5⟩,_⟩:=r.obj id _ hid rfl
    rw [h1] at q1;injection q1 with q1;subst q1
    rw [add_mul] at hle
    have hl:((cs.drop (off*sz)).take (n*sz)).length=n*sz:=by simp;omega
    obtain ⟨k1,k2,k3⟩:=ek hl
    have hv:=(q4.drop (off*sz)).take (n*sz)
    rw [k1,k3]
    refine .inr (.inl ⟨b,off*sz,c,_,rfl,hv,by rw [hv.1,hl],λw' hs j v hv=> ?_⟩)
    rw [cell?,hs.obj id _ b hid rfl h1,q2]
    simp only [getElem?_take,getElem?_drop] at hv
    split at hv
    ·split at hv
     ·simpa using hv
     ·cases hv
    ·cases hv
  ·cases h
 case sl id off n cap=>
  split at h
  ·rename_i cs hid
   cases hb:ble (off+n*size) cs.length with
   |false=>rw [hb] at h;cases h
   |true=>
    rw [hb] at h;injection h with h;subst h
    have hle:=le_of_ble_eq_true hb
    obtain ⟨b,h1,rfl⟩:=hx.sl_inv
    obtain ⟨b',q1,⟨us,t,q2,q4,q5⟩,_⟩:=r.obj id _ hid rfl
    rw [h1] at q1;injection q1 with q1;subst q1
    have hl:((cs.drop off).take (n*size)).length=n*size:=by simp;omega
    obtain ⟨k1,k2,k3⟩:=ek hl
    have hv:=(q4.drop off).take (n*size)
    rw [k1,k3]
    refine .inr (.inl ⟨b,off,cap,_,rfl,hv,by rw [hv.1,hl],λw' hs j v hv=> ?_⟩)
    rw [cell?,hs.obj id _ b hid rfl h1,q2]
    simp only [getElem?_take,getElem?_drop] at hv
    split at hv
    ·simpa using hv
    ·cases hv
  ·rename_i cs hid
   cases hb:ble (off+n*size) cs.length with
   |false=>rw [hb] at h;cases h
   |true=>
    rw [hb] at h;injection h with h;subst h
    have hle:=le_of_ble_eq_true hb
    obtain ⟨b,h1,rfl⟩:=hx.sl_inv
    obtain ⟨b',q1,⟨us,t,q2,q3,q4,q5⟩,_⟩:=r.obj id _ hid rfl
    rw [h1] at q1;injection q1 with q1;subst q1
    have hl:((cs.drop off).take (n*size)).length=n*size:=by simp;omega
    obtain ⟨k1,k2,k3⟩:=ek hl
    have hv:=(q4.drop off).take (n*size)
    rw [k1,k3]
    refine .inr (.inl ⟨b,off,cap,_,rfl,hv,by rw [hv.1,hl],λw' hs j v hv=> ?_⟩)
    rw [cell?,hs.obj id _ b hid rfl h1,q2]
    simp only [getElem?_take,getElem?_drop] at hv
    split at hv
    ·split at hv
     ·simpa using hv
     ·cases hv
    ·cases hv
  ·cases h
theorem Bt (r:RW g T w){s d:TypeId}{x y:TV}{u:Value}(h:fR P T s d x=some y)(hx:VR g w x u):Looks P g T w (convert s d u) y:=by
 unfold fR at h
 split at h
 ·rename_i e hs hd
  split at h
  ·rename_i he
   split at h
   ·cases h
   ·rename_i hnv
    split at h
    ·rename_i es hr
     simp only [map_eq_some_iff] at h
     obtain ⟨l,hb,rfl⟩:=h
     rcases yl r hnv hr hx with ⟨rfl,rfl⟩ | ⟨b,o,c,us,rfl,h1,h2,h3⟩ | ⟨a,rfl,rfl⟩
     rotate_left 2
     ·injection hb with hb;subst hb
      refine .of_ok (.val _) λw'=> ?_
      rw [run_convert_bytes_string w' s d e (some a) 0 0 hs he hd]
      simp [Conv.bytesToString,loadCells,loadCellsFrom];rfl
     ·injection hb with hb;subst hb
      refine .of_ok (.val _) λw'=> ?_
      rw [run_convert_bytes_string w' s d e none 0 0 hs he hd]
      simp [Conv.bytesToString];rfl
     ·have hus:=rX hb h1
      subst hus
      refine ⟨_,.val _,λw' hsame=> ?_⟩
      rw [run_convert_bytes_string w' s d e _ _ _ hs he hd]
      have hl:=run_loadCells_list (P:=P) w' ⟨b,o,none⟩ (l.map (Value.int .u8)) (λj v hv=>by rw [Addr.add_none];exact h3 w' hsame j v hv)
      rw [h2,mul_one] at hl
      rw [run_bytesToString w' _ _ _ l hl,z7]
    ·cases h
  ·cases h
 ·cases h
theorem yH {kt:TypeId}{sh:KS}(hsh:bY P kt=some sh){k:Value}(hk:sh.fits k=true)(w:World):∀(ms:List MapEntry) (i:Nat),(∀e∈ms,sh.fits e.key=true)→
  (findAsking kt k ms i).run P w=.ok ((ms.zipIdx i).findSome? λp=>bif aj k p.1.key then some (p.2,p.1.val) else none) w
 |[],i,_=>by simp [findAsking]
 |e::ms,i,h=>by
  have he:=qv hsh hk (h e (by simp)) w
  simp only [findAsking,run_bind,he,andThen_ok,zipIdx_cons,List.findSome?_cons]
  cases hq:aj k e.key with
  |true=>simp
  |false=>
   simp only [false_eq_true,if_false,cond_false]
   exact yH hsh hk w ms (i+1) λe' he'=>h e' (by simp [he'])
theorem rY {kd:TypeDesc}{sh:KS}{kt:TypeId}(hu:P.underlying kt=some kd)(hsh:bY P kt=some sh){k:Value}(hk:sh.fits k=true):∀(ms:List MapEntry) (i:Nat),(∀e∈ms,sh.fits e.key=true)→
  ∀a,findNow kd k ms i=some a→a=(ms.zipIdx i).findSome? λp=>bif aj k p.1.key then some (p.2,p.1.val) else none
 |[],i,_,a,h=>by simp [findNow] at h;simp [h]
 |e::ms,i,hf,a,h=>by
  simp only [zipIdx_cons,List.findSome?_cons]
  have hfe:=hf e (by simp)
  have hsame:∀b,sameNow kd k e.key=some b→b=aj k e.key:=by
   intro b hb
   unfold sameNow at hb
   split at hb
   ·split at hb
    ·rename_i h1;subst h1;injection hb with hb;subst hb;simp [*,aj,cH]
    ·cases hb
   ·injection hb with hb;subst hb;simp [*,aj,cH]
   ·injection hb with hb;subst hb;simp [*,aj,cH]
   ·cases hb
  unfold findNow at h
  split at h
  ·rename_i hs
   have:=hsame _ hs
   injection h with h;subst h
   rw [←this];simp
  ·rename_i hs
   have:=hsame _ hs
   rw [←this]
   simp only [cond_false]
   exact rY hu hsh hk ms (i+1) (λe' he'=>hf e' (by simp [he'])) a h
  ·cases h
theorem gA {kt:TypeId}{sh:KS}(hsh:bY P kt=some sh){k:Value}(hk:sh.fits k=true)(w:World)(ms:List MapEntry)(h:∀e∈ms,sh.fits e.key=true):
  (findKey kt k ms).run P w=.ok ((ms.zipIdx 0).findSome? λp=>bif aj k p.1.key then some (p.2,p.1.val) else none) w:=by
 obtain ⟨kd,hu,_⟩:=(gz (P:=P) 6 kt sh hsh).isA
 simp only [findKey,run_bind,run_underlying hu,andThen_ok]
 split
 ·rename_i a ha
  rw [run_pure,rY hu hsh hk ms 0 h a ha]
 ·exact yH hsh hk w ms 0 h
theorem mI {k:Value}:∀{es:List (Value × TV × Nat)} {ms:List MapEntry} (i:Nat),ms.map (·.key)=es.map (·.1)→VRs g w (es.map (·.2.1)) (ms.map (·.val))→
  (cI k es=none∧((ms.zipIdx i).findSome? λp=>bif aj k p.1.key then some (p.2,p.1.val) else none)=none)∨
  ∃x j v,cI k es=some x∧((ms.zipIdx i).findSome? λp=>bif aj k p.1.key then some (p.2,p.1.val) else none)=some (i+j,v)∧VR g w x v∧(∃e m,es[j]?=some e∧ms[j]?=some m∧aj k e.1=true∧m.key=e.1∧m.val=v∧x=e.2.1)∧(∀j',j' <j→∀e,es[j']?=some e→aj k e.1=false)
 |[],[],i,_,_=>.inl ⟨rfl,rfl⟩
 |[],_::_,i,h,_=>by simp at h
 |_::_,[],i,h,_=>by simp at h
 |e::es,m::ms,i,h,hv=>by
  simp only [map_cons,List.cons.injEq] at h
  obtain ⟨h1,h2⟩:=h
  simp only [map_cons] at hv
  have hv0:VR g w e.2.1 m.val:=hv.2 0 _ _ rfl rfl
  have hv1:VRs g w (es.map (·.2.1)) (ms.map (·.val)):=⟨by simpa using hv.1,λj x u hx hu=>hv.2 (j+1) x u hx hu⟩
  simp only [cI,zipIdx_cons,List.findSome?_cons,h1]
  cases hq:aj k e.1 with
  |true=>
   simp only [cond_true]
   exact .inr ⟨_,0,_,rfl,rfl,hv0,⟨e,m,rfl,rfl,hq,h1,rfl,rfl⟩,λj' hj=>by omega⟩
  |false=>
   simp only [cond_false]
   rcases mI (i+1) h2 hv1 with h3 | ⟨x,j,v,h3,h4,h5,⟨e',m',h6,h7,h8⟩,h9⟩
   ·exact .inl h3
   ·refine .inr ⟨x,j+1,v,h3,?_,h5,⟨e',m',h6,h7,h8⟩,λj' hj e2 he2=> ?_⟩
    ·rw [h4];congr 2;omega
    ·cases j' with
     |zero=>simp at he2;subst he2;exact hq
     |succ j'=>exact h9 j' (by omega) e2 he2
end
section
variable {P:Program}{g:Gh}{T:VT}{w:World}
def DC:CK→CK→Bool
 | .int a,.int b=>decide (a=b)
 | .bool,.bool=>true
 | .str,.str=>true
 |_,_=>false
def pU:List CK→List CK→Bool
 |[],[]=>true
 |a::al,b::bl=>DC a b&&pU al bl
 |_,_=>false
def fG (a b:KS):Bool:=(a.agg==b.agg)&&pU a.ks b.ks
theorem Gf {a b:CK}(h:DC a b=true):a=b:=by
 cases a<;>cases b<;>simp [DC] at h<;>simp [h]
theorem vZ:∀{a b:List CK},pU a b=true→a=b
 |[],[],_=>rfl
 |[],_::_,h=>by simp [pU] at h
 |_::_,[],h=>by simp [pU] at h
 |a::al,b::bl,h=>by
  simp only [pU,and_eq_true] at h
  rw [Gf h.1,vZ h.2]
theorem pV {a b:KS}(h:fG a b=true):a=b:=by
 simp only [fG,and_eq_true,beq_iff_eq] at h
 cases a;cases b
 simp at h
 rw [h.1,vZ h.2]
def z8 (z:Value):TV:=match z with
 | .agg us=>.agg (us.toList.map .val)
 |v=>.val v
theorem yI (z:Value):VR g w (z8 z) z:=by
 unfold z8
 split
 ·rename_i us
  have:=VR.mk_agg (VRs.vals g w us.toList)
  simpa using this
 ·exact .val _
def cf (ok:Bool)(o:Option TV)(z:Value):TV:=match o with
 |some x=>bif ok then .tup [x,.val (.bool true)] else x
 |none=>bif ok then .tup [z8 z,.val (.bool false)] else z8 z
def cQ (P:Program)(T:VT)(t:TypeId)(m k:TV)(ok:Bool):Option TV:=match P.underlying t,bM k with
 |some (.map kt et),some kv=>match bY P kt,P.info? et with
  |some sh,some i=>match i.zero with
   |some z=>bif sh.fits kv then (match m with
    | .val (.map none)=>some (cf ok none z)
    | .map id=>match T.objs[id]? with
     |some (.map sh' look _ _)=>bif fG sh sh' then some (cf ok (look kv) z) else none
     |_=>none
    |_=>none) else none
   |none=>none
  |_,_=>none
 |_,_=>none
theorem nj {ok:Bool}{z:Value}{o:Option TV}{v:Option Value}(h:match o,v with | some x,some u=>VR g w x u | none,none=>True | _,_=>False):
  VR g w (cf ok o z) (match v with | some u=>(if ok then .tuple #[u,.bool true] else u) | none=>(if ok then .tuple #[z,.bool false] else z)):=by
 cases o<;>cases v<;>simp only at h<;>cases ok<;>simp only [cf,cond_true,cond_false,if_true,false_eq_true,if_false]
 ·exact yI z
 ·exact .mk_tup (us:= [z,.bool false]) (.cons (yI z) (.cons (.val _) (.nil g w)))
 ·exact h
 ·exact .mk_tup (us:= [_,.bool true]) (.cons h (.cons (.val _) (.nil g w)))
theorem rZ (r:RW g T w){t:TypeId}{m k y:TV}{ok:Bool}{um uk:Value}(h:cQ P T t m k ok=some y)(hm:VR g w m um)(hk:VR g w k uk):Looks P g T w (Instr.lookup t um uk ok) y:=by
 unfold cQ at h
 split at h
 ·rename_i kt et kv hu hkv
  have hkv':=bS hkv hk
  subst hkv'
  split at h
  ·rename_i sh i hsh hi
   split at h
   ·rename_i z hz
    cases hf:sh.fits uk with
    |false=>rw [hf] at h;cases h
    |true=>
     rw [hf] at h
     simp only [cond_true] at h
     have hzero:∀w',(zeroValue et).run P w'=.ok z w':=λw'=>by simp [zeroValue,typeInfo,hi,hz]
     split at h
     ·injection h with h;subst h
      rw [hm.val_inv]
      refine ⟨_,nj (v:=none) (o:=none) trivial,λw' _=> ?_⟩
      have hfk:=gA hsh hf w' [] (by simp)
      simp only [List.zipIdx_nil,List.findSome?_nil] at hfk
      simp [Instr.lookup,run_underlying hu,cZ hsh hf,hfk,hzero]
     ·rename_i id
      split at h
      ·rename_i sh' look es ck hid
       cases hq:fG sh sh' with
       |false=>rw [hq] at h;cases h
       |true=>
        rw [hq] at h
        have:=pV hq
        subst this
        injection h with h;subst h
        obtain ⟨b,hb,rfl⟩:=hm.map_inv
        obtain ⟨b',h1,⟨ms,h2,h3,h4,h5,h6,h7,h8⟩,_⟩:=r.obj id _ hid rfl
        rw [hb] at h1;injection h1 with h1;subst h1
        have hfit:∀e∈ms.toList,sh.fits e.key=true:=λe he=>by
         have:e.key∈ms.toList.map (·.key):=mem_map_of_mem he
         rw [h3] at this
         obtain ⟨e',he',heq⟩:=mem_map.1 this
         rw [←heq];exact h6 e' he'
        rw [h8 uk hf]
        have hget:∀w',Same g T w w'→w'.heap[b]?=some (.map ms ck):=λw' hs=>(hs.obj id _ b hid rfl hb).trans h2
        rcases mI (k:=uk) 0 h3 h4 with ⟨g1,g2⟩ | ⟨x,j,v,g1,g2,g3,_⟩
        ·rw [g1]
         refine ⟨_,nj (v:=none) (o:=none) trivial,λw' hs=> ?_⟩
         have hfk:=gA hsh hf w' ms.toList hfit
         rw [g2] at hfk
         simp [Instr.lookup,run_underlying hu,getObj,Sem.run,hget w' hs,cZ hsh hf,hfk,hzero]
        ·rw [g1]
         refine ⟨_,nj (v:=some v) (o:=some x) g3,λw' hs=> ?_⟩
         have hfk:=gA hsh hf w' ms.toList hfit
         rw [g2] at hfk
         simp [Instr.lookup,run_underlying hu,getObj,Sem.run,hget w' hs,cZ hsh hf,hfk]
      ·cases h
     ·cases h
   ·cases h
  ·cases h
 ·cases h
theorem n9 {c:CK}{v:Value}(h:c.fit v=true)(n:Nat):sameBits n v v=true:=by
 cases c<;>cases v<;>simp [CK.fit] at h<;>cases n<;>simp [sameBits,beq_toListBytes]
theorem oa {s:KS}{v:Value}(h:s.fits v=true):sameBits 10000 v v=true:=by
 obtain ⟨cs,hc,hf⟩:=c8 h
 cases hs:s.agg with
 |true=>
  rw [cl hs hc]
  simp only [sameBits,beq_self_eq_true,Bool.true_and]
  rw [all_eq_true]
  have key:∀(ks:List CK) (cs:List Value),aQ ks cs=true→∀x∈cs.zip cs,sameBits 9999 x.1 x.2=true:=by
   intro ks
   induction ks with
   |nil=>intro cs hf x hx;cases cs<;>simp [aQ] at hf;simp at hx
   |cons k ks ih=>
    intro cs hf x hx
    cases cs with
    |nil=>simp at hx
    |cons c cs=>
     simp only [aQ,and_eq_true] at hf
     simp only [List.zip_cons_cons,List.mem_cons] at hx
     rcases hx with rfl | hx
     ·exact n9 hf.1 _
     ·exact ih cs hf.2 x hx
  exact key s.ks cs hf
 |false=>
  unfold KS.cells at hc
  rw [hs] at hc
  cases v<;>simp at hc<;>subst hc<;>(match hk:s.ks,hf with
   |[c],hf=>simp only [aQ,Bool.and_true] at hf;exact n9 hf _
   |[],hf=>simp [aQ] at hf
   |_::_::_,hf=>simp [aQ] at hf)
theorem oz {k:Value}{sh:KS}(hk:sh.fits k=true)(v:TV)(ck:Nat):∀{es:List (Value × TV × Nat)},(∀e∈es,sh.fits e.1=true)→
  (bt k v ck es).map (·.1)=(match cI k es with | some _=>es.map (·.1) | none=>es.map (·.1)++ [k])
 |[],_=>rfl
 |e::es,h=>by
  simp only [bt,cI]
  cases hq:aj k e.1 with
  |true=>
   have:=(bZ hk (h e (by simp))).1 hq
   simp [this]
  |false=>
   simp only [cond_false,map_cons]
   rw [oz hk v ck λe' he'=>h e' (by simp [he'])]
   cases cI k es<;>simp
theorem uw {k:Value}{sh:KS}(hk:sh.fits k=true):∀{es:List (Value × TV × Nat)},(∀e∈es,sh.fits e.1=true)→(cI k es=none ↔ k∉es.map (·.1))
 |[],_=>by simp [cI]
 |e::es,h=>by
  simp only [cI]
  have h1:=bZ hk (h e (by simp))
  cases hq:aj k e.1 with
  |true=>simp [h1.1 hq]
  |false=>
   simp only [cond_false,map_cons,List.mem_cons,not_or]
   rw [uw hk λe' he'=>h e' (by simp [he'])]
   exact ⟨λh2=>⟨λh3=>(by rw [h1.2 h3] at hq;cases hq),h2⟩,λh2=>h2.2⟩
theorem lG {k k':Value}{sh:KS}(hk:sh.fits k=true)(hk':sh.fits k'=true)(v:TV)(ck:Nat):∀{es:List (Value × TV × Nat)},(∀e∈es,sh.fits e.1=true)→
  cI k' (bt k v ck es)=(bif aj k k' then some v else cI k' es)
 |[],_=>by
  simp only [bt,cI]
  have h1:=bZ hk hk'
  have h2:=bZ hk' hk
  cases hq:aj k k' with
  |true=>rw [h2.2 (h1.1 hq).symm]
  |false=>
   have:aj k' k=false:=by
    cases hp:aj k' k with
    |false=>rfl
    |true=>rw [h1.2 (h2.1 hp).symm] at hq;cases hq
   rw [this]
 |e::es,h=>by
  have he:=h e (by simp)
  have h1:=bZ hk hk'
  have h2:=bZ hk' hk
  have h3:=bZ hk he
  have h4:=bZ hk' he
  have ih:=lG hk hk' v ck (es:=es) λe' he'=>h e' (by simp [he'])
  simp only [bt]
  cases hq:aj k e.1 with
  |true=>
   simp only [cond_true,cI]
   have e1:=h3.1 hq
   cases hp:aj k k' with
   |true=>rw [h2.2 (h1.1 hp).symm];rfl
   |false=>
    have:aj k' k=false:=by
     cases hr:aj k' k with
     |false=>rfl
     |true=>rw [h1.2 (h2.1 hr).symm] at hp;cases hp
    rw [this,←e1,this];rfl
  |false=>
   simp only [cond_false,cI]
   cases hp:aj k' e.1 with
   |true=>
    simp only [cond_true]
    cases hr:aj k k' with
    |false=>rfl
    |true=>rw [h1.1 hr,hp] at hq;cases hq
   |false=>simp only [cond_false];exact ih
theorem oA {k:Value}{sh:KS}(hk:sh.fits k=true)(v:TV)(ck:Nat){es:List (Value × TV × Nat)}(h:∀e∈es,sh.fits e.1=true):∀e∈bt k v ck es,sh.fits e.1=true:=by
 have h1:=oz hk v ck h
 intro e he
 have:e.1∈(bt k v ck es).map (·.1):=mem_map_of_mem he
 rw [h1] at this
 split at this
 ·obtain ⟨e',he',heq⟩:=mem_map.1 this
  rw [←heq];exact h e' he'
 ·rcases mem_append.1 this with h2 | h2
  ·obtain ⟨e',he',heq⟩:=mem_map.1 h2
   rw [←heq];exact h e' he'
  ·simp at h2;rw [h2];exact hk
theorem nk {k:Value}{sh:KS}(hk:sh.fits k=true)(v:TV)(ck:Nat){es:List (Value × TV × Nat)}(h:∀e∈es,sh.fits e.1=true)(hn:(es.map (·.1)).Nodup):((bt k v ck es).map (·.1)).Nodup:=by
 rw [oz hk v ck h]
 split
 ·exact hn
 ·rename_i hm
  have:=(uw hk h).1 hm
  rw [List.nodup_append]
  refine ⟨hn,by simp,λa ha b hb=> ?_⟩
  simp at hb;subst hb
  rintro rfl
  exact this ha
end
section
variable {P:Program}{g:Gh}{T:VT}{w:World}
def pW (P:Program)(ro:Nat)(T:VT)(t:TypeId)(m k v:TV):Option (TV × VT):=match P.underlying t,bM k,m with
 |some (.map kt _),some kv,.map id=>match bY P kt,T.objs[id]? with
  |some sh,some (.map sh' look es ck)=>bif fG sh sh' &&sh.fits kv&&ble ro id then
    some (.val undef,{T with objs:=T.objs.set id (.map sh (λk'=>bif aj kv k' then some v else look k') (bt kv v ck es) (match look kv with | some _=>ck | none=>ck+1))}) else none
  |_,_=>none
 |_,_,_=>none
theorem iq {w:World}{b:Nat}{ms ms':Array MapEntry}{ck ck':Nat}(h:w.heap[b]?=some (.map ms ck)):
  let w':World:={w with heap:=w.heap.setIfInBounds b (.map ms' ck')}
  w'.heap[b]?=some (.map ms' ck')∧(∀c,c≠b→w'.heap[c]?=w.heap[c]?)∧w'.heap.size=w.heap.size∧bg w' b=bg w b:=by
 have h1:=Go.MapKept.heap_set (w:=w) (o':=.map ms' ck') h
 refine ⟨h1.1,λc hc=>h1.2 c hc,by simp,?_⟩
 unfold bg
 simp only [h1.1,h]
theorem tp {k:Value}(v:TV)(ck:Nat):∀{es:List (Value × TV × Nat)} (j:Nat) e,es[j]?=some e→aj k e.1=true→(∀j',j' <j→∀e,es[j']?=some e→aj k e.1=false)→
  bt k v ck es=es.set j (k,v,e.2.2)
 |[],_,_,h,_,_=>by simp at h
 |e0::es,0,e,h,hq,_=>by
  simp at h;subst h
  simp [bt,hq]
 |e0::es,j+1,e,h,hq,hb=>by
  have h0:=hb 0 (by omega) e0 rfl
  simp only [bt,h0,cond_false,List.set_cons_succ]
  rw [tp v ck j e (by simpa using h) hq λj' hj e' he'=>hb (j' +1) (by omega) e' (by simpa using he')]
theorem gZ {k:Value}(v:TV)(ck:Nat):∀{es:List (Value × TV × Nat)},cI k es=none→bt k v ck es=es++ [(k,v,ck)]
 |[],_=>rfl
 |e::es,h=>by
  simp only [cI] at h
  cases hq:aj k e.1 with
  |true=>rw [hq] at h;cases h
  |false=>
   rw [hq] at h
   simp only [bt,hq,cond_false,List.cons_append]
   rw [gZ v ck h]
theorem r6 (r:RW g T w){ro:Nat}{t:TypeId}{m k v y:TV}{um uk uv:Value}{T':VT}(h:pW P ro T t m k v=some (y,T'))(hm:VR g w m um)(hk:VR g w k uk)(hv:VR g w v uv):
  ∃g' w',(Instr.mapUpdate t um uk uv).run P w=.ok () w'∧VR g' w' y undef∧Evo g w g' w'∧RW g' T' w'∧Fix ro g T w T' w':=by
 unfold pW at h
 split at h
 ·rename_i kt et kv id hu hkv
  have hkv':=bS hkv hk
  subst hkv'
  split at h
  ·rename_i sh sh' look es ck hsh hid
   cases hb:(fG sh sh' &&sh.fits uk&&ble ro id) with
   |false=>rw [hb] at h;cases h
   |true=>
    rw [hb] at h
    simp only [and_eq_true] at hb
    obtain ⟨⟨hq,hf⟩,hr⟩:=hb
    have hr:=le_of_ble_eq_true hr
    have:=pV hq
    subst this
    injection h with h;injection h with e1 e2;subst e1 e2
    obtain ⟨b,hb,rfl⟩:=hm.map_inv
    obtain ⟨b',h1,⟨ms,h2,h3,h4,h5,h6,h7,h8⟩,_⟩:=r.obj id _ hid rfl
    rw [hb] at h1;injection h1 with h1;subst h1
    have hfit:∀e∈ms.toList,sh.fits e.key=true:=λe he=>by
     have:e.key∈ms.toList.map (·.key):=mem_map_of_mem he
     rw [h3] at this
     obtain ⟨e',he',heq⟩:=mem_map.1 this
     rw [←heq];exact h6 e' he'
    have hfk:=gA hsh hf w ms.toList hfit
    have hgo:(getObj b).run P w=.ok (.map ms ck) w:=by simp [getObj,Sem.run,h2]
    have fin:∀(ms':Array MapEntry) (ck':Nat),(Instr.mapUpdate t (.map (some b)) uk uv).run P w=.ok () {w with heap:=w.heap.setIfInBounds b (.map ms' ck')}→
      ck'=(match look uk with | some _=>ck | none=>ck+1)→
      ms'.toList.map (·.key)=(bt uk v ck es).map (·.1)→VRs g w ((bt uk v ck es).map (·.2.1)) (ms'.toList.map (·.val))→ms'.toList.map (·.born)=(bt uk v ck es).map (·.2.2)→
      ∃g' w',(Instr.mapUpdate t (.map (some b)) uk uv).run P w=.ok () w'∧VR g' w' (.val undef) undef∧Evo g w g' w'∧
       RW g' {T with objs:=T.objs.set id (.map sh (λk'=>bif aj uk k' then some v else look k') (bt uk v ck es) (match look uk with | some _=>ck | none=>ck+1))} w'∧
       Fix ro g T w {T with objs:=T.objs.set id (.map sh (λk'=>bif aj uk k' then some v else look k') (bt uk v ck es) (match look uk with | some _=>ck | none=>ck+1))} w':=by
     intro ms' ck' hrun hck p1 p2 p3
     obtain ⟨w1,w2,w3,w4⟩:=iq (w:=w) (ms':=ms') (ck':=ck') h2
     obtain ⟨_,e0⟩:=r.setObj hid rfl hb (o':=.gone) (w':={w with heap:=w.heap.setIfInBounds b (.map ms' ck')}) ⟨rfl,rfl,rfl⟩ w3 w2 w4 (λh=>by cases h)
     obtain ⟨r',e'⟩:=r.setObj hid rfl hb (o':=.map sh (λk'=>bif aj uk k' then some v else look k') (bt uk v ck es) (match look uk with | some _=>ck | none=>ck+1)) (w':={w with heap:=w.heap.setIfInBounds b (.map ms' ck')}) ⟨rfl,rfl,rfl⟩ w3 w2 w4
      (λ_=>⟨ms',by rw [←hck];exact w1,p1,p2.mono e0,p3,oA hf v ck h6,nk hf v ck h6 h7,λk' hk'=>by
       simp only [lG hf hk' v ck h6,h8 k' hk']⟩)
     exact ⟨g,_,hrun,.val _,e',r',cq r hid rfl hb hr w2⟩
    rcases mI (k:=uk) 0 h3 h4 with ⟨g1,g2⟩ | ⟨x,j,v0,g1,g2,g3,⟨e,me,k1,k2,k3,k4,k5,k6⟩,k7⟩
    ·rw [g2] at hfk
     refine fin (ms.push {key:=uk,val:=uv,born:=ck}) (ck+1) ?_ (by rw [h8 uk hf,g1]) ?_ ?_ ?_
     ·simp [Instr.mapUpdate,run_underlying hu,hgo,cZ hsh hf,hfk,Go.MapKept.run_setObj_map _ h2]
     ·rw [gZ v ck g1];simp [h3]
     ·rw [gZ v ck g1]
      have:=h4.app (.cons hv (.nil g w))
      simpa using this
     ·rw [gZ v ck g1];simp [h5]
    ·rw [g2] at hfk
     have hje:j<es.length:=(List.getElem?_eq_some_iff.1 k1).1
     have hjm:j<ms.size:=by have:=(List.getElem?_eq_some_iff.1 k2).1;simpa using this
     have hkey:me.key=uk:=by rw [k4];exact ((bZ hf (h6 e (mem_of_getElem? k1))).1 k3).symm
     have hmj:ms[j]?=some me:=by simpa using k2
     have hset:=tp (k:=uk) v ck j e k1 k3 k7
     have hml:(ms.modify j λe=>{e with key:=uk,val:=uv}).toList=ms.toList.set j {me with key:=uk,val:=uv}:=by
      apply ext_getElem?
      intro i
      rw [getElem?_toList,getElem?_modify,getElem?_set]
      by_cases hij:j=i
      ·subst hij
       rw [if_pos rfl,if_pos rfl,hmj]
       simp [hjm]
      ·rw [if_neg hij,if_neg hij];simp
     refine fin (ms.modify j λe=>{e with key:=uk,val:=uv}) ck ?_ (by rw [h8 uk hf,g1]) ?_ ?_ ?_
     ·have hst:(keyThatStays (((ms[j]?).map (·.key)).getD uk) uk).run P w=.ok uk w:=by
       rw [hmj]
       simp only [map_some,Option.getD_some,hkey,keyThatStays,oa hf,if_true,run_pure]
      simp only [zero_add] at hfk
      simp [Instr.mapUpdate,run_underlying hu,hgo,cZ hsh hf,hfk,hst,Go.MapKept.run_setObj_map _ h2]
     ·rw [hml,hset,map_set,map_set,h3]
     ·rw [hml,hset,map_set,map_set]
      exact h4.set j hv
     ·rw [hml,hset,map_set,map_set,h5]
      have:e.2.2=me.born:=by
       have h9:=congrArg (·[j]?) h5
       simp only [getElem?_map,k1,k2,map_some,Option.some.injEq] at h9
       exact h9.symm
      rw [this]
  ·cases h
 ·cases h
def iY (P:Program)(T:VT)(t:TypeId)(r:Option TV):Option (TV × VT):=match P.underlying t with
 |some (.map kt _)=>match bY P kt with
  |some sh=>(match r with
   |none=>some (.map T.objs.length,{T with objs:=T.objs++ [.map sh (λ_=>none) [] 0]})
   |some (.val (.int _ _))=>some (.map T.objs.length,{T with objs:=T.objs++ [.map sh (λ_=>none) [] 0]})
   |_=>none)
  |none=>none
 |_=>none
theorem ym (r:RW g T w){t:TypeId}{x:Option TV}{u:Option Value}{y:TV}{T':VT}(h:iY P T t x=some (y,T'))(hx:BR g w x u):Does P g T w (Instr.makeMap t u) y T'∧T'.objs.take T.objs.length=T.objs:=by
 unfold iY at h
 split at h
 ·rename_i kt et hu
  split at h
  ·rename_i sh hsh
   have go:∀(hrun:(Instr.makeMap t u).run P w=.ok (.map (some w.heap.size)) (w.alloc (.map #[] 0))),Does P g T w (Instr.makeMap t u) (.map T.objs.length) {T with objs:=T.objs++ [.map sh (λ_=>none) [] 0]}:=by
    intro hrun
    have hor:OR g (w.alloc (.map #[] 0)) w.heap.size (.map sh (λ_=>none) [] 0):=
     ⟨#[],heap_alloc_new w _,by simp,by simpa using VRs.nil g _,by simp,by simp,by simp,λk _=>rfl⟩
    obtain ⟨g',r',e',hg,_⟩:=r.new (.map #[] 0) (o:=.map sh (λ_=>none) [] 0) rfl hor
    exact ⟨_,g',_,hrun,.map hg,e',r',Same.of_gr r ((Gr.refl w).alloc _)⟩
   split at h
   ·injection h with h;injection h with e1 e2;subst e1 e2
    cases u with
    |some _=>cases hx
    |none=>exact ⟨go (by simp [Instr.makeMap,newObj,Sem.run]),by simp⟩
   ·injection h with h;injection h with e1 e2;subst e1 e2
    cases u with
    |none=>cases hx
    |some u=>
     rw [VR.val_inv hx]
     exact ⟨(by rw [VR.val_inv hx] at go;exact go (by simp [Instr.makeMap,run_underlying hu,asInt,asIntOf,newObj,Sem.run])),by simp⟩
   ·cases h
  ·cases h
 ·cases h
end
section
variable {P:Program}{g:Gh}{T:VT}{w:World}
theorem v6 {z:Value}(hz1:∀u∈z.cells.toList,u.oneCell'=true)(n:Nat):∀u∈(zeroCells z.cells n).toList,u.oneCell'=true:=by
 intro u hu
 rw [mem_toList_iff] at hu
 obtain ⟨j,hj,rfl⟩:=getElem_of_mem hu
 rw [size_zeroCells] at hj
 have hzp:0<z.cells.size:=by
  rcases Nat.eq_zero_or_pos z.cells.size with h0 | h0
  ·rw [h0,Nat.mul_zero] at hj;omega
  ·exact h0
 have:(zeroCells z.cells n)[j]'(by rw [size_zeroCells];exact hj)=z.cells[j%z.cells.size]'(mod_lt _ hzp):=by
  simp only [zeroCells,getElem_map,getElem_range]
  exact getElem!_pos z.cells (j%z.cells.size) (mod_lt _ hzp)
 rw [this]
 exact hz1 _ (mem_toList_iff.2 (getElem_mem _))
theorem Bu (r:RW g T w){t tn ty e:TypeId}{i:TypeInfo}{z:Value}{kq kn:IntKind}(ht:P.underlying t=some (.slice e))(htn:P.underlying tn=some (.int kn))(hi:P.info? e=some i)(hz:i.zero=some z)(hzs:z.cells.size=i.size)
  (hz1:∀u∈z.cells.toList,u.oneCell'=true) {k:Nat} (h0:0<k) (hs:0<i.size) (hb:k*(i.bytes+1)≤140737488355328):
  ∃u g' w',(append_ #[t,tn] ty #[.slice none 0 0,.int kq k]).run P w=.ok u w'∧VR g' w' (.row i.size T.objs.length 0 k) u∧Evo g w g' w'∧RW g' (T.newRow ((zeroCells z.cells k).toList.map .val)) w'∧Gr w w':=by
 rw [Nat.mul_add,mul_one] at hb
 have hrun:=Go.Lib.run_append_grow_zeros (P:=P) w t tn ty e i z kq kn ht htn hi hz none 0 0 [] (run_firstCells_none w.drew i.size 0 0 0) k h0 hs (by omega) (by omega) (by omega) (growslice_fits (bytes:=i.bytes) (by omega) (by rw [zero_add];omega))
 simp only [zero_add] at hrun
 have hge:=grownCap_ge w k 0 e
 have hle:=grownCap_le_maxLen w k 0 e (by unfold maxLen;omega)
 generalize hcap:grownCap w k 0 e=cap at hrun hge hle
 have e0:((#[]:Array Value)++zeroCells z.cells k++zeroCells z.cells (cap-k))=((zeroCells z.cells k).toList++(zeroCells z.cells (cap-k)).toList).toArray:=by
  apply ext'
  simp
 have hxs:((zeroCells z.cells k).toList++(zeroCells z.cells (cap-k)).toList).toArray.size=cap*i.size:=by
  simp only [size_toArray,length_append,length_toList,size_zeroCells,hzs,Nat.sub_mul]
  have:k*i.size≤cap*i.size:=Nat.mul_le_mul_right _ hge
  omega
 rw [show ([]:List Value).toArray= #[] from rfl,e0] at hrun
 have hgr:Gr w (w.drew.alloc (.cells ((zeroCells z.cells k).toList++(zeroCells z.cells (cap-k)).toList).toArray e)):=(Gr.refl w).drew.alloc _
 have hnew:(w.drew.alloc (.cells ((zeroCells z.cells k).toList++(zeroCells z.cells (cap-k)).toList).toArray e)).heap[w.heap.size]?=some (.cells ((zeroCells z.cells k).toList++(zeroCells z.cells (cap-k)).toList).toArray e):=heap_alloc_new w.drew _
 generalize w.drew.alloc (.cells ((zeroCells z.cells k).toList++(zeroCells z.cells (cap-k)).toList).toArray e)=w' at*
 have e1:=Evo.of_gr r hgr
 have ro:OR g w' w.heap.size (.row ((zeroCells z.cells k).toList.map .val)):=by
  refine ⟨_,e,hnew,?_,?_,?_⟩
  ·simp
  ·rw [List.length_map,take_left']
   ·exact VRs.vals g w' _
   ·rfl
  ·intro u hu
   rcases mem_append.1 (mem_of_mem_take hu) with hu | hu
   ·exact v6 hz1 _ u hu
   ·exact v6 hz1 _ u hu
 have r1:=(r.gr hgr).addObj (r.fresh (le_refl _)) (o:=.row ((zeroCells z.cells k).toList.map .val)) rfl ro
 have e2:=e1.trans (Evo.addObj (w:=w') (b:=w.heap.size) (r.out T.objs.length (le_refl _)))
 have hlt:w.heap.size<w'.heap.size:=(Array.getElem?_eq_some_iff.1 hnew).1
 have hcz:bg w' w.heap.size=cap*i.size:=by rw [aY hnew];exact hxs
 refine ⟨_,_,_,hrun,?_,e2,r1,hgr⟩
 have:=VR.row (g:=g.addObj T.objs.length w.heap.size) (w:=w') (size:=i.size) (id:=T.objs.length) (off:=0) (n:=k) (b:=w.heap.size) (c:=cap) (by simp [Gh.addObj]) hlt hge hle (by rw [hcz,zero_add])
 rw [zero_mul] at this
 exact this
def Aa (P:Program)(T:VT)(t tx:TypeId)(s x:TV):Option (TV × VT):=match P.underlying t,P.underlying tx,s,x with
 |some (.slice e),some (.int _),.val (.slice none 0 0),.val (.int _ l)=>match P.info? e with
  |some i=>match i.zero with
   |some z=>bif decide (0<l)&&ble (l.toNat*(i.bytes+1)) 140737488355328&&decide (z.cells.size=i.size)&&decide (0<i.size)&&z.cells.toList.all oneCell' then
     some (.row i.size T.objs.length 0 l.toNat,T.newRow ((zeroCells z.cells l.toNat).toList.map .val)) else none
   |none=>none
  |none=>none
 |_,_,_,_=>none
theorem DD (r:RW g T w){ro:Nat}{t tx ty:TypeId}{s x y:TV}{us ux:Value}{T':VT}(h:Aa P T t tx s x=some (y,T'))(hs:VR g w s us)(hx:VR g w x ux):
  ∃u g' w',(append_ #[t,tx] ty #[us,ux]).run P w=.ok u w'∧VR g' w' y u∧Evo g w g' w'∧RW g' T' w'∧Fix ro g T w T' w':=by
 unfold Aa at h
 split at h
 ·rename_i e kn kq l ht htn
  split at h
  ·rename_i i hi
   split at h
   ·rename_i z hz
    cases hb:(decide (0<l)&&ble (l.toNat*(i.bytes+1)) 140737488355328&&decide (z.cells.size=i.size)&&decide (0<i.size)&&z.cells.toList.all oneCell') with
    |false=>rw [hb] at h;cases h
    |true=>
     rw [hb] at h
     simp only [and_eq_true,decide_eq_true_eq] at hb
     obtain ⟨⟨⟨⟨b1,b2⟩,b3⟩,b4⟩,b5⟩:=hb
     injection h with h;injection h with h1 h2;subst h1 h2
     rw [hs.val_inv,hx.val_inv]
     have hl:l=((l.toNat:Nat):Int):=by omega
     obtain ⟨u,g',w',e1,e2,e3,e4,e5⟩:=Bu (ty:=ty) (kq:=kq) r ht htn hi hz b3 (all_eq_true.1 b5) (k:=l.toNat) (by omega) b4 (le_of_ble_eq_true b2)
     rw [←hl] at e1
     exact ⟨u,g',w',e1,e2,e3,e4,Fix.of_same (Same.of_gr r e5) (eo _ _)⟩
   ·cases h
  ·cases h
 ·cases h
end
section
variable {P:Program}{g:Gh}{T:VT}{w:World}
theorem oB {t:TypeId}{i:TypeInfo}(hi:P.info? t=some i)(h1:i.size=1){a:Addr}{k:IntKind}{n:Int}{w':World}{v0:Value}(hc:w.cell? a=some v0)(h:(storeAt t (.pointer (some a)) (.int k n)).run P w=.ok () w'):(store a (.int k n) .atomic).run P w=.ok () w':=by
 simp [storeAt,sureAddr,storeVar,run_bind,be hi,h1,storeCells,Value.cells] at h
 have e:a.add 0=a:=by cases a;simp [Addr.add]
 simp only [store,Sem.run,e,hc] at h ⊢
 exact h
theorem Ab {fn:Func}(h:fn.name= "sync/atomic.AddInt64"):find fn=some (Extern.Atomic.update (Op.intArith .add) .i64 true):=by
 unfold find
 simp only [h]
 rw [show (allGenericRows.lookup "sync/atomic.AddInt64")=none by kernel_rfl,show (allTypedRows.lookup "sync/atomic.AddInt64")=none by kernel_rfl,show (allRows.lookup "sync/atomic.AddInt64")=some (Extern.Atomic.update (Op.intArith .add) .i64 true) by kernel_rfl]
 rfl
theorem v7 {fn:Func}(h:fn.name= "sync/atomic.StoreInt64"):find fn=some Extern.Atomic.storeT:=by
 unfold find
 simp only [h]
 rw [show (allGenericRows.lookup "sync/atomic.StoreInt64")=none by kernel_rfl,show (allTypedRows.lookup "sync/atomic.StoreInt64")=none by kernel_rfl,show (allRows.lookup "sync/atomic.StoreInt64")=some Extern.Atomic.storeT by kernel_rfl]
 rfl
theorem yn {fn:Func}(h:fn.name= "sync/atomic.LoadInt64"):find fn=some (Extern.Atomic.loadT (.int .i64)):=by
 unfold find
 simp only [h]
 rw [show (allGenericRows.lookup "sync/atomic.LoadInt64")=none by kernel_rfl,show (allTypedRows.lookup "sync/atomic.LoadInt64")=none by kernel_rfl,show (allRows.lookup "sync/atomic.LoadInt64")=some (Extern.Atomic.loadT (.int .i64)) by kernel_rfl]
 rfl
theorem yp {fn:Func}(h:fn.name= "sync/atomic.LoadUint32"):find fn=some (Extern.Atomic.loadT (.int .u32)):=by
 unfold find
 simp only [h]
 rw [show (allGenericRows.lookup "sync/atomic.LoadUint32")=none by kernel_rfl,show (allTypedRows.lookup "sync/atomic.LoadUint32")=none by kernel_rfl,show (allRows.lookup "sync/atomic.LoadUint32")=some (Extern.Atomic.loadT (.int .u32)) by kernel_rfl]
 rfl
theorem Ac {fn:Func}(h:fn.name= "maps.clone"):find fn=some Extern.MapsClone.clone:=by
 unfold find
 simp only [h]
 rw [show (allGenericRows.lookup "maps.clone")=none by kernel_rfl,show (allTypedRows.lookup "maps.clone")=none by kernel_rfl,show (allRows.lookup "maps.clone")=some Extern.MapsClone.clone by kernel_rfl]
 rfl
theorem v8 {r:Nat}{es:Array MapEntry}{clock:Nat}(t:TypeId)(hb:w.heap[r]?=some (.map es clock)):
  (Extern.MapsClone.clone [.iface t (.map (some r))].toArray).run P w=.ok (.iface t (.map (some w.heap.size))) (w.alloc (.map es clock)):=by
 have e:Extern.MapsClone.clone [.iface t (.map (some r))].toArray=(getObj r>>=λo=>match o with
   | .map entries clock=>(newObj (.map entries clock)>>=λn=>pure (.iface t (.map (some n))))
   |_=>stuck "maps.clone: a map expected"):=rfl
 have h1:(getObj r).run P w=.ok (.map es clock) w:=by simp [getObj,Sem.run,hb]
 rw [e,run_bind,h1]
 simp [newObj,Sem.run,andThen]
def pX (T:VT)(p:TV):Option TV:=match p with
 | .ptr id off=>match T.objs[id]? with
  |some (.cells cs)=>cs[off]?
  |_=>none
 | .elt (c::_)=>some c
 |_=>none
theorem nl (r:RW g T w){p y:TV}{u:Value}(h:pX T p=some y)(hp:VR g w p u):∃a v,u=.pointer (some a)∧w.cell? a=some v∧VR g w y v∧∀w',Same g T w w'→w'.cell? a=some v:=by
 unfold pX at h
 split at h
 ·rename_i id off
  split at h
  ·rename_i cs hid
   obtain ⟨b,hb,rfl⟩:=hp.ptr_inv
   obtain ⟨b',h4,⟨us,ty,h5,h6,h7⟩,_⟩:=r.obj id _ hid rfl
   rw [hb] at h4;injection h4 with h4;subst h4
   obtain ⟨v,hv,hvr⟩:=h6.at h
   have hc:∀w':World,w'.heap[b]?=w.heap[b]?→w'.cell? ⟨b,off,none⟩=some v:=λw' hh=>by
    unfold cell?
    simp only [hh,h5]
    simpa using hv
   exact ⟨_,v,rfl,hc w rfl,hvr,λw' hs=>hc w' (hs.obj id _ b hid rfl hb)⟩
  ·cases h
 ·rename_i c cs
  injection h with h;subst h
  obtain ⟨b,o,us,rfl,h1,h2,h3,h4⟩:=hp.elt_inv
  obtain ⟨v,hv,hvr⟩:=h1.at (j:=0) (x:=c) rfl
  have h5:=h3 0 v hv
  exact ⟨_,v,rfl,h5,hvr,λw' hs=>(hs.st b o (h2 0 (by simp))).trans h5⟩
 ·cases h
def DE (P:Program)(ro:Nat)(T:VT)(fn:Func)(xs:List TV):Option (TV × VT):=
 bif (findNext fn).isNone&&fn.body.isNone then
  bif fn.name== "sync/atomic.LoadInt64" then (match xs with
   |[p]=>match pX T p with
    |some (.val (.int .i64 x))=>some (.val (.int .i64 x),T)
    |_=>none
   |_=>none)
  else bif fn.name== "sync/atomic.StoreInt64" then (match xs,fn.params.toList with
   |[.ptr id off,.val (.int k y)],[_,t]=>match pX T (.ptr id off),P.info? t with
    |some _,some i=>bif beq i.size 1&&ble ro id then (match iH P T t (.ptr id off) (.val (.int k y)) with
     |some (_,T')=>some (.val (.tuple #[]),T')
     |none=>none) else none
    |_,_=>none
   |_,_=>none)
  else bif fn.name== "sync/atomic.AddInt64" then (match xs,fn.params.toList with
   |[.ptr id off,.val (.int _ y)],[_,t]=>match pX T (.ptr id off),P.info? t with
    |some (.val (.int .i64 x)),some i=>bif beq i.size 1&&ble ro id then (match iH P T t (.ptr id off) (.val (.int .i64 (i64.wrap (x+y)))) with
     |some (_,T')=>some (.val (.int .i64 (i64.wrap (x+y))),T')
     |none=>none) else none
    |_,_=>none
   |_,_=>none)
  else bif fn.name== "sync/atomic.LoadUint32" then (match xs with
   |[p]=>match pX T p with
    |some (.val (.int .u32 x))=>some (.val (.int .u32 x),T)
    |_=>none
   |_=>none)
  else bif fn.name== "maps.clone" then (match xs with
   |[.ifc t (.map id)]=>match T.objs[id]? with
    |some (.map sh look es ck)=>some (.ifc t (.map T.objs.length),{T with objs:=T.objs++ [.map sh look es ck]})
    |_=>none
   |_=>none)
  else none
 else none
theorem wa (t:Extern.Atomic.T)(x:Value):Extern.Atomic.loadT t [x].toArray=(do Extern.Atomic.read t (←asAddr x)):=rfl
theorem Bv (x y:Value):Extern.Atomic.storeT [x,y].toArray=(do store (←asAddr x) y .atomic;pure Extern.Atomic.none_):=rfl
theorem Bw (op:IntKind→Int→Int→Sem Value)(k:IntKind)(b:Bool)(x y:Value):Extern.Atomic.update op k b [x,y].toArray=(do
 let a ←asAddr x
 let old ←Extern.Atomic.read (.int k) a
 let new ←op k (←asInt old) (←asInt y)
 store a new .atomic
 pure (if b then new else old)):=rfl
theorem fS {f:FuncId}{fn:Func}{e:Array Value→Sem Value}(hfn:P.funcs[f]?=some fn)(hnm:fn.name≠ "runtime.NumGoroutine")(hb:fn.body=none)(hn:findNext fn=none)(he:find fn=some e){args:Array Value}{v:Value}{w':World}(h:(e args).run P w=.ok v w'):
  (callFunc f args).run P w=.ok (.value v) w':=by
 simp [callFunc,hfn,hnm,hb,hn,he,mark,Sem.run,run_bind,h,andThen]
theorem Gg (r:RW g T w){ro:Nat}{f:FuncId}{fn:Func}{xs:List TV}{us:List Value}{y:TV}{T':VT}(hfn:P.funcs[f]?=some fn)(h:DE P ro T fn xs=some (y,T'))(hx:VRs g w xs us):
  ∃v g' w',(callFunc f us.toArray).run P w=.ok (.value v) w'∧VR g' w' y v∧Evo g w g' w'∧RW g' T' w'∧Fix ro g T w T' w':=by
 unfold DE at h
 cases hb:((findNext fn).isNone&&fn.body.isNone) with
 |false=>rw [hb] at h;cases h
 |true=>
  rw [hb] at h
  simp only [and_eq_true,Option.isNone_iff_eq_none] at hb
  obtain ⟨hn,hbody⟩:=hb
  simp only [cond_true] at h
  cases h1:(fn.name== "sync/atomic.LoadInt64") with
  |true=>
   rw [h1] at h
   have h1:fn.name= "sync/atomic.LoadInt64" :=by simpa using h1
   simp only [cond_true] at h
   split at h
   ·rename_i p
    split at h
    ·rename_i x hc
     injection h with h;injection h with e1 e2;subst e1 e2
     match us,hx with
     |[u],hx=>
      obtain ⟨a,v,hu,hw,hv,_⟩:=nl r hc (hx.2 0 p u rfl rfl)
      have hv:=hv.val_inv
      subst hu hv
      refine ⟨_,g,w,fS hfn (by rw [h1];decide) hbody hn (yn h1) (v:=.int .i64 x) (w':=w) ?_,.val _,Evo.refl _ _,r,Fix.refl _ _ _ _⟩
      rw [wa]
      simp [Extern.Atomic.read,asAddr,load,Sem.run,run_bind,hw,andThen]
     |[],hx=>have:=hx.1;simp at this
     |_::_::_,hx=>have:=hx.1;simp at this
    ·cases h
   ·cases h
  |false=>
   rw [h1] at h
   simp only [cond_false] at h
   cases h2:(fn.name== "sync/atomic.StoreInt64") with
   |true=>
    rw [h2] at h
    have h2:fn.name= "sync/atomic.StoreInt64" :=by simpa using h2
    simp only [cond_true] at h
    split at h
    ·rename_i id off k z t0 t hps
     split at h
     ·rename_i c i hc hi
      cases hb2:(beq i.size 1&&ble ro id) with
      |false=>rw [hb2] at h;cases h
      |true=>
       rw [hb2] at h
       simp only [and_eq_true] at hb2
       simp only [cond_true] at h
       split at h
       ·rename_i q T2 hst
        injection h with h;injection h with e1 e2;subst e1 e2
        match us,hx with
        |[u,v],hx=>
         have hp:=hx.2 0 _ u rfl rfl
         have hz:=(hx.2 1 _ v rfl rfl).val_inv
         subst hz
         obtain ⟨a,v0,hu,hw,_,_⟩:=nl r hc hp
         subst hu
         obtain ⟨g',w',k1,_,k3,k4,k5⟩:=j9 (P:=P) r hst hp (.val _) (le_of_ble_eq_true hb2.2)
         have k6:=oB hi (eq_of_beq_eq_true hb2.1) hw k1
         refine ⟨_,g',w',fS hfn (by rw [h2];decide) hbody hn (v7 h2) (v:=.tuple #[]) (w':=w') ?_,.val _,k3,k4,k5⟩
         rw [Bv]
         simp [Extern.Atomic.none_,asAddr,k6,andThen]
        |[],hx=>have:=hx.1;simp at this
        |[_],hx=>have:=hx.1;simp at this
        |_::_::_::_,hx=>have:=hx.1;simp at this
       ·cases h
     ·cases h
    ·cases h
   |false=>
    rw [h2] at h
    simp only [cond_false] at h
    cases h3:(fn.name== "sync/atomic.AddInt64") with
    |false=>
     rw [h3] at h
     simp only [cond_false] at h
     cases h4:(fn.name== "sync/atomic.LoadUint32") with
     |true=>
      rw [h4] at h
      have h4:fn.name= "sync/atomic.LoadUint32" :=by simpa using h4
      simp only [cond_true] at h
      split at h
      ·rename_i p
       split at h
       ·rename_i x hc
        injection h with h;injection h with e1 e2;subst e1 e2
        match us,hx with
        |[u],hx=>
         obtain ⟨a,v,hu,hw,hv,_⟩:=nl r hc (hx.2 0 p u rfl rfl)
         have hv:=hv.val_inv
         subst hu hv
         refine ⟨_,g,w,fS hfn (by rw [h4];decide) hbody hn (yp h4) (v:=.int .u32 x) (w':=w) ?_,.val _,Evo.refl _ _,r,Fix.refl _ _ _ _⟩
         rw [wa]
         simp [Extern.Atomic.read,asAddr,load,Sem.run,run_bind,hw,andThen]
        |[],hx=>have:=hx.1;simp at this
        |_::_::_,hx=>have:=hx.1;simp at this
       ·cases h
      ·cases h
     |false=>
      rw [h4] at h
      simp only [cond_false] at h
      cases h5:(fn.name== "maps.clone") with
      |false=>rw [h5] at h;cases h
      |true=>
       rw [h5] at h
       have h5:fn.name= "maps.clone" :=by simpa using h5
       simp only [cond_true] at h
       split at h
       ·rename_i t id
        split at h
        ·rename_i sh look es ck hid
         injection h with h;injection h with e1 e2;subst e1 e2
         match us,hx with
         |[u],hx=>
          obtain ⟨v,rfl,hv⟩:=(hx.2 0 _ u rfl rfl).ifc_inv
          obtain ⟨b,hb,rfl⟩:=hv.map_inv
          obtain ⟨b',hb',⟨ms,hm,k1,k2,k3,k4⟩,_,_⟩:=r.obj id _ hid rfl
          rw [hb] at hb';injection hb' with hb';subst hb'
          have ev:=Evo.of_gr r ((Gr.refl w).alloc (.map ms ck))
          have hor:OR g (w.alloc (.map ms ck)) w.heap.size (.map sh look es ck):=⟨ms,heap_alloc_new w _,k1,k2.mono ev,k3,k4⟩
          obtain ⟨g',r',e',hg,_⟩:=r.new (.map ms ck) (o:=.map sh look es ck) rfl hor
          refine ⟨_,g',_,fS hfn (by rw [h5];decide) hbody hn (Ac h5) (v8 (P:=P) t hm),.ifc (.map hg),e',r',Fix.of_same (Same.of_gr r ((Gr.refl w).alloc _)) (by simp)⟩
         |[],hx=>have:=hx.1;simp at this
         |_::_::_,hx=>have:=hx.1;simp at this
        ·cases h
       ·cases h
    |true=>
     rw [h3] at h
     have h3:fn.name= "sync/atomic.AddInt64" :=by simpa using h3
     simp only [cond_true] at h
     split at h
     ·rename_i id off k z t0 t hps
      split at h
      ·rename_i x i hc hi
       cases hb2:(beq i.size 1&&ble ro id) with
       |false=>rw [hb2] at h;cases h
       |true=>
        rw [hb2] at h
        simp only [and_eq_true] at hb2
        simp only [cond_true] at h
        split at h
        ·rename_i q T2 hst
         injection h with h;injection h with e1 e2;subst e1 e2
         match us,hx with
         |[u,v],hx=>
          have hp:=hx.2 0 _ u rfl rfl
          have hz:=(hx.2 1 _ v rfl rfl).val_inv
          subst hz
          obtain ⟨a,v0,hu,hw,hv0,_⟩:=nl r hc hp
          have hv0:=hv0.val_inv
          subst hu hv0
          obtain ⟨g',w',k1,_,k3,k4,k5⟩:=j9 (P:=P) r hst hp (.val _) (le_of_ble_eq_true hb2.2)
          have k6:=oB hi (eq_of_beq_eq_true hb2.1) hw k1
          refine ⟨_,g',w',fS hfn (by rw [h3];decide) hbody hn (Ab h3) (v:=.int .i64 (i64.wrap (x+z))) (w':=w') ?_,.val _,k3,k4,k5⟩
          have rd:(Extern.Atomic.read (.int .i64) a).run P w=.ok (.int .i64 x) w:=by
           simp [Extern.Atomic.read,load,Sem.run,run_bind,hw,andThen]
          rw [Bw]
          simp [asAddr,asInt,asIntOf,Op.intArith,run_bind,rd,k6,andThen]
         |[],hx=>have:=hx.1;simp at this
         |[_],hx=>have:=hx.1;simp at this
         |_::_::_::_,hx=>have:=hx.1;simp at this
        ·cases h
      ·cases h
     ·cases h
end
section
variable {P:Program}{g:Gh}{T:VT}{w:World}
theorem Bx (r:RW g T w){ro id off b:Nat}{cs new:List TV}{vs:List Value}(hid:T.objs[id]?=some (.row cs))(hb:g.obj id=some b)(k:VRs g w new vs)(ho:∀v∈vs,v.oneCell'=true)(h2:off+new.length≤cs.length)(hr:ro≤id):
  ∃w',(storeCells ⟨b,off,none⟩ vs).run P w=.ok () w'∧Evo g w g w'∧RW g {T with objs:=T.objs.set id (.row (aU cs off new))} w'∧Fix ro g T w {T with objs:=T.objs.set id (.row (aU cs off new))} w':=by
 obtain ⟨b',h4,⟨us,ty,h5,h6,h7,h8⟩,_⟩:=r.obj id _ hid rfl
 rw [hb] at h4;injection h4 with h4;subst h4
 have hl:vs.length=new.length:=k.1
 have hrun:=run_storeCells_at (P:=P) b off ty vs 0 us.toArray w h5 (by simp at hl ⊢;omega) ho
 simp only [add_zero,hl] at hrun
 have hsr:=setRow_heap w b _ (us.take off++vs++us.drop (off+new.length)).toArray ty (0,0) h5
 have hll:(us.take off++vs++us.drop (off+new.length)).length=us.length:=by simp at hl ⊢;omega
 have hcs:bg (w.setRow b (us.take off++vs++us.drop (off+new.length)).toArray) b=bg w b:=by
  rw [aY hsr,aY h5,size_toArray,size_toArray,hll]
 have hoth:∀c,c≠b→(w.setRow b (us.take off++vs++us.drop (off+new.length)).toArray).heap[c]?=w.heap[c]?:=λc hc=>setRow_other w b c _ hc
 obtain ⟨_,e0⟩:=r.setObj hid rfl hb (o':=.gone) (w':=w.setRow b (us.take off++vs++us.drop (off+new.length)).toArray) ⟨rfl,rfl,rfl⟩ (by simp) hoth hcs (λh=>by cases h)
 have k2:=((((h7.take off).app k).app (h7.drop (off+new.length)))).mono e0
 have ht:(us.take off++vs++us.drop (off+new.length)).take (aU cs off new).length=(us.take cs.length).take off++vs++(us.take cs.length).drop (off+new.length):=by
  have hsl:(aU cs off new).length=cs.length:=by simp [aU];omega
  rw [hsl]
  apply ext_getElem?
  intro j
  rw [getElem?_take]
  have hA:(us.take off).length=off:=by simp;omega
  have hA2:((us.take cs.length).take off).length=off:=by simp;omega
  rcases lt_or_ge j cs.length with hj | hj
  ·rw [if_pos hj,append_assoc,append_assoc,getElem?_append (l₁:=us.take off),getElem?_append (l₁:=(us.take cs.length).take off),hA,hA2]
   split
   ·rename_i hjo
    simp [hjo,hj]
   ·rw [getElem?_append,getElem?_append]
    split
    ·rfl
    ·simp only [getElem?_drop,getElem?_take]
     rw [if_pos (by omega)]
  ·rw [if_neg (by omega)]
   symm
   apply List.getElem?_eq_none
   simp at hl ⊢;omega
 have o2:∀v∈(us.take off++vs++us.drop (off+new.length)).take (aU cs off new).length,v.oneCell'=true:=by
  rw [ht]
  intro v hv
  simp only [mem_append] at hv
  rcases hv with (hv | hv) | hv
  ·exact h8 v (mem_of_mem_take hv)
  ·exact ho v hv
  ·exact h8 v (mem_of_mem_drop hv)
 obtain ⟨r',e'⟩:=r.setObj hid rfl hb (o':=.row (aU cs off new)) (w':=w.setRow b (us.take off++vs++us.drop (off+new.length)).toArray) ⟨rfl,rfl,rfl⟩ (by simp) hoth hcs
  (λ_=>⟨_,ty,hsr,by rw [hll];simp [aU];omega,by rw [ht];exact k2,o2⟩)
 have hl:vs.length=new.length:=k.1
 exact ⟨_,by simpa using hrun,e',r',cq r hid rfl hb hr hoth⟩
def wb (P:Program)(ro:Nat)(T:VT)(t tx:TypeId)(d x:TV):Option (TV × VT):=match P.underlying t,d with
 |some (.slice e),.row sz id off m=>match P.info? e,T.objs[id]? with
  |some i,some (.row cs)=>match ci T i.size x with
   |some es=>bif beq i.size sz&&ble es.length m&&ble (off*sz+es.flatten.length) cs.length&&ble ro id&&fQ (P.underlying tx) then
     some (.val (.int .i64 es.length),{T with objs:=T.objs.set id (.row (aU cs (off*sz) es.flatten))}) else none
   |none=>none
  |_,_=>none
 |_,_=>none
theorem By (r:RW g T w){ro:Nat}{t tx ty:TypeId}{d x y:TV}{ud ux:Value}{T':VT}(h:wb P ro T t tx d x=some (y,T'))(hd:VR g w d ud)(hx:VR g w x ux):
  ∃u g' w',(copy_ #[t,tx] ty #[ud,ux]).run P w=.ok u w'∧VR g' w' y u∧Evo g w g' w'∧RW g' T' w'∧Fix ro g T w T' w':=by
 unfold wb at h
 split at h
 ·rename_i e sz id off m ht
  split at h
  ·rename_i i cs hi hid
   split at h
   ·rename_i es hes
    cases hb0:(beq i.size sz&&ble es.length m&&ble (off*sz+es.flatten.length) cs.length&&ble ro id&&fQ (P.underlying tx)) with
    |false=>rw [hb0] at h;cases h
    |true=>
     rw [hb0] at h
     simp only [and_eq_true] at hb0
     obtain ⟨⟨⟨⟨b1,b2⟩,b3⟩,b4⟩,b5⟩:=hb0
     have b1:=eq_of_beq_eq_true b1
     subst b1
     injection h with h;injection h with e1 e2;subst e1 e2
     obtain ⟨news,sr,k2,z2⟩:=kP (P:=P) r hes hx (mE b5)
     obtain ⟨b,c,f1,f2,f3,f4,f5,rfl⟩:=hd.row_inv
     obtain ⟨w',k1,k3,k4,k5⟩:=Bx (P:=P) r hid f1 k2 sr.one (le_of_ble_eq_true b3) (le_of_ble_eq_true b4)
     have hmin:Nat.min es.length m=es.length:=min_eq_left (le_of_ble_eq_true b2)
     refine ⟨_,g,w',?_,.val _,k3,k4,k5⟩
     simp [copy_,run_underlying ht,sizeOf,typeInfo,hi,sr.len,hmin,sr.cells,k1,goInt]
   ·cases h
  ·cases h
 ·cases h
theorem DF (r:RW g T w){ro id off b:Nat}{cs new:List TV}{vs:List Value}(hid:T.objs[id]?=some (.cells cs))(hb:g.obj id=some b)(k:VRs g w new vs)(ho:∀v∈vs,v.oneCell'=true)(h2:off+new.length≤cs.length)(hr:ro≤id):
  ∃w',(storeCells ⟨b,off,none⟩ vs).run P w=.ok () w'∧Evo g w g w'∧RW g {T with objs:=T.objs.set id (.cells (aU cs off new))} w'∧Fix ro g T w {T with objs:=T.objs.set id (.cells (aU cs off new))} w':=by
 obtain ⟨b',h4,⟨us,ty,h5,h6,h7⟩,_⟩:=r.obj id _ hid rfl
 rw [hb] at h4;injection h4 with h4;subst h4
 have hl:vs.length=new.length:=k.1
 have hus:us.length=cs.length:=h6.1
 have hrun:=run_storeCells_at (P:=P) b off ty vs 0 us.toArray w h5 (by simp at hl ⊢;omega) ho
 simp only [add_zero,hl] at hrun
 have hsr:=setRow_heap w b _ (us.take off++vs++us.drop (off+new.length)).toArray ty (0,0) h5
 have hcs:bg (w.setRow b (us.take off++vs++us.drop (off+new.length)).toArray) b=bg w b:=by
  rw [aY hsr,aY h5]
  simp at hl ⊢;omega
 have hoth:∀c,c≠b→(w.setRow b (us.take off++vs++us.drop (off+new.length)).toArray).heap[c]?=w.heap[c]?:=λc hc=>setRow_other w b c _ hc
 obtain ⟨_,e0⟩:=r.setObj hid rfl hb (o':=.gone) (w':=w.setRow b (us.take off++vs++us.drop (off+new.length)).toArray) ⟨rfl,rfl,rfl⟩ (by simp) hoth hcs (λh=>by cases h)
 have k2:=(((h6.take off).app k).app (h6.drop (off+new.length))).mono e0
 have o2:∀v∈us.take off++vs++us.drop (off+new.length),v.oneCell'=true:=by
  intro v hv
  simp only [mem_append] at hv
  rcases hv with (hv | hv) | hv
  ·exact h7 v (mem_of_mem_take hv)
  ·exact ho v hv
  ·exact h7 v (mem_of_mem_drop hv)
 obtain ⟨r',e'⟩:=r.setObj hid rfl hb (o':=.cells (aU cs off new)) (w':=w.setRow b (us.take off++vs++us.drop (off+new.length)).toArray) ⟨rfl,rfl,rfl⟩ (by simp) hoth hcs
  (λ_=>⟨_,ty,hsr,k2,o2⟩)
 exact ⟨_,by simpa using hrun,e',r',cq r hid rfl hb hr hoth⟩
def wc (P:Program)(ro:Nat)(T:VT)(t tx:TypeId)(d x:TV):Option (TV × VT):=match P.underlying t,d with
 |some (.slice e),.sl id off m _=>match P.info? e,T.objs[id]? with
  |some i,some (.cells cs)=>match ci T i.size x with
   |some es=>bif ble es.length m&&ble (off+es.flatten.length) cs.length&&ble ro id&&fQ (P.underlying tx) then
     some (.val (.int .i64 es.length),{T with objs:=T.objs.set id (.cells (aU cs off es.flatten))}) else none
   |none=>none
  |_,_=>none
 |_,_=>none
theorem Bz (r:RW g T w){ro:Nat}{t tx ty:TypeId}{d x y:TV}{ud ux:Value}{T':VT}(h:wc P ro T t tx d x=some (y,T'))(hd:VR g w d ud)(hx:VR g w x ux):
  ∃u g' w',(copy_ #[t,tx] ty #[ud,ux]).run P w=.ok u w'∧VR g' w' y u∧Evo g w g' w'∧RW g' T' w'∧Fix ro g T w T' w':=by
 unfold wc at h
 split at h
 ·rename_i e id off m cap ht
  split at h
  ·rename_i i cs hi hid
   split at h
   ·rename_i es hes
    cases hb0:(ble es.length m&&ble (off+es.flatten.length) cs.length&&ble ro id&&fQ (P.underlying tx)) with
    |false=>rw [hb0] at h;cases h
    |true=>
     rw [hb0] at h
     simp only [and_eq_true] at hb0
     obtain ⟨⟨⟨b2,b3⟩,b4⟩,b5⟩:=hb0
     injection h with h;injection h with e1 e2;subst e1 e2
     obtain ⟨news,sr,k2,z2⟩:=kP (P:=P) r hes hx (mE b5)
     obtain ⟨b,f1,rfl⟩:=hd.sl_inv
     obtain ⟨w',k1,k3,k4,k5⟩:=DF (P:=P) r hid f1 k2 sr.one (le_of_ble_eq_true b3) (le_of_ble_eq_true b4)
     have hmin:Nat.min es.length m=es.length:=min_eq_left (le_of_ble_eq_true b2)
     refine ⟨_,g,w',?_,.val _,k3,k4,k5⟩
     simp [copy_,run_underlying ht,sizeOf,typeInfo,hi,sr.len,hmin,sr.cells,k1,goInt]
   ·cases h
  ·cases h
 ·cases h
end
section
variable {P:Program}{g:Gh}{T:VT}{w:World}
theorem mh {isS:Bool}{len cap l h m:Nat}{hi mx:TV}{lo':Option TV}{ul:Option Value}{uh um:Value}(h1:gq lo'=some l)(h2:eZ hi=some h)(h3:eZ mx=some m)(hl:BR g w lo' ul)(hh:VR g w hi uh)(hm:VR g w mx um)
  (hle:l≤h) (hc:h≤m) (hmc:m≤cap) (w':World):(Instr.sliceBounds isS len cap ul (some uh) (some um)).run P w'=.ok (l,h,m) w':=by
 obtain ⟨km,hkm⟩:=nc h3 hm
 obtain ⟨kh,hkh⟩:=nc h2 hh
 have em:=ly (P:=P) (c:=if isS then BoundsCode.slice3Acap else BoundsCode.slice3Alen) hmc hkm w'
 have eh:=ly (P:=P) (c:=BoundsCode.slice3B) hc hkh w'
 have e1:=yC (P:=P) (y:=h) (c:=.slice3C) h1 hl hle w'
 cases ul<;>simp_all [Instr.sliceBounds]
def mJ (P:Program)(t:TypeId)(x:TV)(lo hi mx:Option TV):Option TV:=match hi,mx,P.underlying t with
 |some hv,some mv,some (.slice e)=>match P.info? e,gq lo,eZ hv,eZ mv with
  |some inf,some l,some h,some m=>match x with
   | .row size id off n=>bif beq inf.size size&&ble l h&&ble h m&&ble m n then (bif beq l m then some (.sl id (off*size) 0 0) else some (.sl id ((off+l)*size) (h-l) (m-l))) else none
   | .sl id off _ cap=>bif ble l h&&ble h m&&ble m cap&&ble cap 140737488355328 then (bif beq l m then some (.sl id off 0 0) else some (.sl id (off+l*inf.size) (h-l) (m-l))) else none
   | .vec size es _=>bif beq inf.size size&&ble l h&&ble h m&&ble m es.length then some (.vec size ((es.take h).drop l) .none) else none
   |_=>none
  |_,_,_,_=>none
 |_,_,_=>none
theorem Ad {t:TypeId}{x y:TV}{lo hi mx:Option TV}{u:Value}{ul uh um:Option Value}(h:mJ P t x lo hi mx=some y)(hx:VR g w x u)(hl:BR g w lo ul)(hh:BR g w hi uh)(hm:BR g w mx um):
  Looks0 P g w (sliceAt t u ul uh um) y:=by
 unfold mJ at h
 split at h
 ·rename_i hv mv e hu
  cases uh with
  |none=>exact hh.elim
  |some uh=>
  cases um with
  |none=>exact hm.elim
  |some um=>
  split at h
  ·rename_i inf l hn m hinf h1 h2 h3
   have hrun:∀{a n c},u=.slice (some a) n c→l≤hn→hn≤m→m≤c→a.spot=none→∀w':World,(sliceAt t u ul (some uh) (some um)).run P w'=.ok (.slice (if m=l then some a else some ⟨a.block,a.off+l*inf.size,none⟩) (hn-l) (m-l)) w':=by
    intro a n c hu2 hle hc hmc hsp w'
    subst hu2
    obtain ⟨ab,ao,asp⟩:=a
    simp only at hsp;subst hsp
    have:=mh (P:=P) (isS:=true) (len:=n) (cap:=c) h1 h2 h3 hl hh hm hle hc hmc w'
    simp only [sliceAt,Instr.slice,run_bind,run_underlying hu,andThen_ok,this,be hinf,run_pure,map_some,Addr.add_none]
   split at h
   ·rename_i size id off n
    cases hb:(beq inf.size size&&ble l hn&&ble hn m&&ble m n) with
    |false=>rw [hb] at h;cases h
    |true=>
     rw [hb] at h
     simp only [and_eq_true] at hb
     obtain ⟨⟨⟨b1,b2⟩,b3⟩,b4⟩:=hb
     have b1:=eq_of_beq_eq_true b1
     have b2:=le_of_ble_eq_true b2
     have b3:=le_of_ble_eq_true b3
     have b4:=le_of_ble_eq_true b4
     subst b1
     obtain ⟨b,c,k1,k2,k3,k4,k5,rfl⟩:=hx.row_inv
     simp only [cond_true] at h
     cases hq:beq l m with
     |true=>
      rw [hq] at h
      have hq:=eq_of_beq_eq_true hq
      injection h with h;subst h
      refine .of_ok ?_ (hrun rfl b2 b3 (by omega) rfl)
      have e1:hn-l=0:=by omega
      have e2:m-l=0:=by omega
      rw [if_pos hq.symm,e1,e2]
      exact .sl k1
     |false=>
      rw [hq] at h
      have hq:=Nat.ne_of_beq_eq_false hq
      injection h with h;subst h
      refine .of_ok ?_ (hrun rfl b2 b3 (by omega) rfl)
      rw [if_neg (λh=>hq h.symm)]
      simp only
      rw [←add_mul]
      exact .sl k1
   ·rename_i id off n' cap
    cases hb:(ble l hn&&ble hn m&&ble m cap&&ble cap 140737488355328) with
    |false=>rw [hb] at h;cases h
    |true=>
     rw [hb] at h
     simp only [and_eq_true] at hb
     obtain ⟨⟨⟨b2,b3⟩,b4⟩,b5⟩:=hb
     have b2:=le_of_ble_eq_true b2
     have b3:=le_of_ble_eq_true b3
     have b4:=le_of_ble_eq_true b4
     have b5:=le_of_ble_eq_true b5
     obtain ⟨b,k1,rfl⟩:=hx.sl_inv
     simp only [cond_true] at h
     cases hq:beq l m with
     |true=>
      rw [hq] at h
      have hq:=eq_of_beq_eq_true hq
      injection h with h;subst h
      refine .of_ok ?_ (hrun rfl b2 b3 b4 rfl)
      have e1:hn-l=0:=by omega
      have e2:m-l=0:=by omega
      rw [if_pos hq.symm,e1,e2]
      exact .sl k1
     |false=>
      rw [hq] at h
      have hq:=Nat.ne_of_beq_eq_false hq
      injection h with h;subst h
      refine .of_ok ?_ (hrun rfl b2 b3 b4 rfl)
      rw [if_neg (λh=>hq h.symm)]
      exact .sl k1
   ·rename_i size es tok
    cases hb:(beq inf.size size&&ble l hn&&ble hn m&&ble m es.length) with
    |false=>rw [hb] at h;cases h
    |true=>
     rw [hb] at h
     simp only [and_eq_true] at hb
     obtain ⟨⟨⟨b1,b2⟩,b3⟩,b4⟩:=hb
     have b1:=eq_of_beq_eq_true b1
     have b2:=le_of_ble_eq_true b2
     have b3:=le_of_ble_eq_true b3
     have b4:=le_of_ble_eq_true b4
     subst b1
     injection h with h;subst h
     obtain ⟨a,n,c,hu2,hn2,hnc,_,hd⟩:=hx.vec_drop (l:=l) (by omega)
     have hd:=hd hn b2 (by omega)
     rcases hx.vec_inv with ⟨h0,hes,_⟩ | ⟨b,o,c',us,h0,h5,h6,_⟩ | ⟨ad,h0,hes,_⟩
     rotate_left 2
     ·subst hes
      simp only [length_nil,Nat.le_zero_eq] at b4
      have e1:m=0:=b4
      have e2:hn=0:=by omega
      have e3:l=0:=by omega
      subst e1 e2 e3
      refine .of_ok (v:=.slice (some ad) 0 0) (by simpa using VR.odd (g:=g) (w:=w) (size:=inf.size) (tok:=.none) ad trivial) λw'=> ?_
      have:=mh (P:=P) (isS:=true) (len:=0) (cap:=0) h1 h2 h3 hl hh hm b2 b3 (le_refl _) w'
      rw [h0]
      simp only [sliceAt,Instr.slice,run_bind,run_underlying hu,andThen_ok,this,be hinf,run_pure,map_some,ite_self]
      simp
     ·subst hes
      simp only [length_nil,Nat.le_zero_eq] at b4
      have e1:m=0:=b4
      have e2:hn=0:=by omega
      have e3:l=0:=by omega
      subst e1 e2 e3
      refine .of_ok (v:=.slice none 0 0) (by simpa using VR.nil (g:=g) (w:=w) (size:=inf.size) (tok:=.none) trivial) λw'=> ?_
      have:=mh (P:=P) (isS:=true) (len:=0) (cap:=0) h1 h2 h3 hl hh hm b2 b3 (le_refl _) w'
      rw [h0]
      simp only [sliceAt,Instr.slice,run_bind,run_underlying hu,andThen_ok,this,be hinf,run_pure,map_none,ite_self,sub_zero]
     ·rw [hu2] at h0
      injection h0 with h01 h02 h03
      subst h01 h03
      refine .of_ok ?_ (hrun hu2 b2 b3 (by omega) rfl)
      by_cases hml:m=l
      ·have:hn=l:=by omega
       subst this
       rw [if_pos hml,hml,Nat.sub_self]
       have e1:(es.take hn).drop hn= []:=List.drop_eq_nil_of_le (by simp;omega)
       rw [e1]
       exact .mk_vec (us:= []) (by simp) (by omega) (by omega) (by simp) trivial (by simpa using VRs.nil g w) (by simp) (by simp) (by simp)
      ·rw [if_neg hml]
       rw [if_neg (by omega)] at hd
       simp only [map_some,Addr.add_none] at hd
       generalize hes2:(es.take hn).drop l=es2 at hd ⊢
       rcases hd.vec_inv with ⟨h7,_⟩ | ⟨b',o',c2,us2,h7,h8,h9,h10,h11,h12,h13,h14,h15⟩ | ⟨_,h7,_⟩
       rotate_left 2
       ·injection h7 with h71 h72 h73
        omega
       ·cases h7
       ·injection h7 with h71 h72 h73
        injection h71 with h71;injection h71 with h71 h74
        subst h71 h74
        rw [h72]
        exact .mk_vec (us:=us2) rfl (by omega) (by omega) h10 trivial h12 h13 h14 h15
   ·cases h
  ·cases h
 ·cases h
def r7 (P:Program)(T:VT)(t tx:TypeId)(s x:TV):Option (TV × VT):=match P.underlying t,s with
 |some (.slice e),.sl _ _ n cap=>match P.info? e with
  |some i=>match i.zero,ci T i.size x,ci T i.size s with
   |some z,some es2,some es=>match es2 with
    |[]=>bif ble n cap then some (s,T) else none
    |_::_=>bif decide (z.cells.size=i.size)&&z.cells.toList.all oneCell' &&fQ (P.underlying tx)&&beq n cap&&beq es.length n&&ble ((n+es2.length)*(i.bytes+1)) 140737488355328 then some (.row i.size T.objs.length 0 (n+es2.length),T.newRow (es.flatten++es2.flatten)) else none
   |_,_,_=>none
  |none=>none
 |_,_=>none
theorem DG (r:RW g T w){ro:Nat}{t tx ty:TypeId}{s x y:TV}{us ux:Value}{T':VT}(h:r7 P T t tx s x=some (y,T'))(hs:VR g w s us)(hx:VR g w x ux)(hk0:fQ (P.underlying tx)=true):
  ∃u g' w',(append_ #[t,tx] ty #[us,ux]).run P w=.ok u w'∧VR g' w' y u∧Evo g w g' w'∧RW g' T' w'∧Fix ro g T w T' w':=by
 unfold r7 at h
 split at h
 ·rename_i e id off n cap ht
  split at h
  ·rename_i i hi
   split at h
   ·rename_i z es2 es hz hr2 hr1
    obtain ⟨news,sr,k2,z2⟩:=kP (P:=P) r hr2 hx (mE hk0)
    obtain ⟨olds,so,k1,z1⟩:=kP (P:=P) (tx:=t) r hr1 hs (.inl ⟨e,ht⟩)
    have hfl1:=bp z1
    obtain ⟨b,hb0,rfl⟩:=hs.sl_inv
    split at h
    ·cases hb:ble n cap with
     |false=>rw [hb] at h;cases h
     |true=>
      rw [hb] at h
      injection h with h;injection h with h1 h2;subst h1 h2
      have sr0:Src P i.size tx ux 0 news w:=sr
      exact ⟨_,g,w,gN (ty:=ty) ht hi sr0 (a:=some ⟨b,off,none⟩) (le_of_ble_eq_true hb),hs,Evo.refl _ _,r,Fix.refl _ _ _ _⟩
    ·rename_i q0 qs
     cases hb:(decide (z.cells.size=i.size)&&z.cells.toList.all oneCell' &&fQ (P.underlying tx)&&beq n cap&&beq es.length n&&ble ((n+(q0::qs).length)*(i.bytes+1)) 140737488355328) with
     |false=>rw [hb] at h;cases h
     |true=>
      rw [hb] at h
      simp only [and_eq_true,decide_eq_true_eq] at hb
      obtain ⟨⟨⟨⟨⟨hz1,hz2⟩,hk⟩,hnc⟩,hen⟩,hbig⟩:=hb
      have hnc:=eq_of_beq_eq_true hnc
      have hen:=eq_of_beq_eq_true hen
      have hbig:=le_of_ble_eq_true hbig
      injection h with h;injection h with h1 h2;subst h1 h2
      have hz3:∀u∈z.cells.toList,u.oneCell'=true:=all_eq_true.1 hz2
      subst hnc hen
      obtain ⟨_,_,_,so3,so4,so5⟩:=so
      obtain ⟨u,g',w',e1,e2,e3,e4,e5⟩:=iX (ty:=ty) r ht hi hz hz1 (cs:=es.flatten) (a:=some ⟨b,off,none⟩) (n:=es.length) (c:=es.length) (us:=olds) hfl1 k1 so5 hz3 so3 sr k2 (by simp) hbig
      exact ⟨u,g',w',e1,e2,e3,e4,Fix.of_same (Same.of_gr r e5) (eo _ _)⟩
   ·cases h
  ·cases h
 ·cases h
def tq (P:Program)(x:TV)(t:TypeId)(ok:Bool):Option TV:=match P.underlying t,x with
 |some (.interface _),_=>none
 |some _,.ifc t' v=>bif beq t' t then (bif ok then some (.tup [v,.val (.bool true)]) else some v) else (bif ok then (match P.info? t with
  |some i=>match i.zero with
   |some z=>some (.tup [.val z,.val (.bool false)])
   |none=>none
  |none=>none) else none)
 |some _,.val .nilIface=>bif ok then (match P.info? t with
  |some i=>match i.zero with
   |some z=>some (.tup [.val z,.val (.bool false)])
   |none=>none
  |none=>none) else none
 |_,_=>none
theorem Ae {t tx:TypeId}{x y:TV}{u:Value}{ok:Bool}(h:tq P x t ok=some y)(hx:VR g w x u):Looks0 P g w (Instr.typeAssert u tx t ok) y:=by
 unfold tq at h
 split at h
 ·cases h
 ·rename_i d t' v hni hu
  obtain ⟨v',rfl,hv⟩:=hx.ifc_inv
  cases hb:beq t' t with
  |true=>
   rw [hb] at h
   have hb:=eq_of_beq_eq_true hb
   subst hb
   simp only [cond_true] at h
   cases ok with
   |true=>
    simp only [cond_true] at h
    injection h with h;subst h
    refine .of_ok (v:=.tuple #[v',.bool true]) ?_ λw'=> ?_
    ·exact .mk_tup (us:= [v',.bool true]) (.cons hv (.cons (.val _) (VRs.nil g w)))
    ·cases d<;>first
      |exact (hni _ rfl).elim
      |simp [Instr.typeAssert,run_underlying hu]
   |false=>
    simp only [cond_false] at h
    injection h with h;subst h
    refine .of_ok (v:=v') hv λw'=> ?_
    cases d<;>first
     |exact (hni _ rfl).elim
     |simp [Instr.typeAssert,run_underlying hu]
  |false=>
   rw [hb] at h
   have hb:=Nat.ne_of_beq_eq_false hb
   simp only [cond_false] at h
   cases ok with
   |false=>cases h
   |true=>
    simp only [cond_true] at h
    split at h
    ·rename_i i hi
     split at h
     ·rename_i z hz
      injection h with h;subst h
      refine .of_ok (v:=.tuple #[z,.bool false]) ?_ λw'=> ?_
      ·exact .mk_tup (us:= [z,.bool false]) (.cons (.val _) (.cons (.val _) (VRs.nil g w)))
      ·cases d<;>first
        |exact (hni _ rfl).elim
        |simp [Instr.typeAssert,run_underlying hu,hb,zeroValue,typeInfo,hi,hz]
     ·cases h
    ·cases h
 ·rename_i d hni hu
  obtain rfl:=hx.val_inv
  cases ok with
  |false=>cases h
  |true=>
   simp only [cond_true] at h
   split at h
   ·rename_i i hi
    split at h
    ·rename_i z hz
     injection h with h;subst h
     refine .of_ok (v:=.tuple #[z,.bool false]) ?_ λw'=> ?_
     ·exact .mk_tup (us:= [z,.bool false]) (.cons (.val _) (.cons (.val _) (VRs.nil g w)))
     ·cases d<;>first
       |exact (hni _ rfl).elim
       |simp [Instr.typeAssert,run_underlying hu,zeroValue,typeInfo,hi,hz]
    ·cases h
   ·cases h
 ·cases h
end
section
variable {P:Program}{g:Gh}{T:VT}{w:World}
def tr (P:Program)(ro:Nat)(T:VT)(t:TypeId)(m k:TV):Option (TV × VT):=match P.underlying t,bM k,m with
 |some (.map kt _),some kv,.map id=>match bY P kt,T.objs[id]? with
  |some sh,some (.map sh' look es ck)=>bif fG sh sh' &&sh.fits kv&&ble ro id then
    some (.val (.tuple #[]),{T with objs:=T.objs.set id (.map sh (λk'=>bif aj kv k' then none else look k') (dm kv es) ck)}) else none
  |_,_=>none
 |some (.map kt _),some kv,.val (.map none)=>match bY P kt with
  |some sh=>bif sh.fits kv then some (.val (.tuple #[]),T) else none
  |none=>none
 |_,_,_=>none
theorem yJ {k:Value}:∀{es:List (Value × TV × Nat)} (j:Nat) e,es[j]?=some e→aj k e.1=true→(∀j',j' <j→∀e,es[j']?=some e→aj k e.1=false)→dm k es=es.eraseIdx j
 |[],_,_,h,_,_=>by simp at h
 |e0::es,0,e,h,hq,_=>by
  simp at h;subst h
  simp [dm,hq]
 |e0::es,j+1,e,h,hq,hb=>by
  have h0:=hb 0 (by omega) e0 rfl
  simp only [dm,h0,cond_false,List.eraseIdx_cons_succ]
  rw [yJ j e (by simpa using h) hq λj' hj e' he'=>hb (j' +1) (by omega) e' (by simpa using he')]
theorem lH {k:Value}:∀{es:List (Value × TV × Nat)},cI k es=none→dm k es=es
 |[],_=>rfl
 |e::es,h=>by
  simp only [cI] at h
  cases hq:aj k e.1 with
  |true=>rw [hq] at h;cases h
  |false=>
   rw [hq] at h
   simp only [dm,hq,cond_false]
   rw [lH h]
theorem nn {k:Value}:∀(es:List (Value × TV × Nat)),(dm k es).Sublist es
 |[]=>.slnil
 |e::es=>by
  simp only [dm]
  cases aj k e.1 with
  |true=>exact List.sublist_cons_self e es
  |false=>exact (nn es).cons_cons e
theorem wd {k:Value}{sh:KS}(hk:sh.fits k=true):∀{es:List (Value × TV × Nat)},(∀e∈es,sh.fits e.1=true)→k∉es.map (·.1)→cI k es=none
 |[],_,_=>rfl
 |e::es,h,hn=>by
  simp only [cI]
  have h1:=bZ hk (h e (by simp))
  cases hq:aj k e.1 with
  |true=>exact absurd (by simp [h1.1 hq]) hn
  |false=>exact wd hk (λe' he'=>h e' (by simp [he'])) λhm=>hn (by simp at hm ⊢;exact .inr hm)
theorem uy {k k':Value}{sh:KS}(hk:sh.fits k=true)(hk':sh.fits k'=true):∀{es:List (Value × TV × Nat)},(∀e∈es,sh.fits e.1=true)→(es.map (·.1)).Nodup→
  cI k' (dm k es)=(bif aj k k' then none else cI k' es)
 |[],_,_=>by simp only [dm,cI];cases aj k k' <;>rfl
 |e::es,h,hn=>by
  have he:=h e (by simp)
  have h1:=bZ hk hk'
  have h3:=bZ hk he
  have h4:=bZ hk' he
  simp only [map_cons,List.nodup_cons] at hn
  have ih:=uy hk hk' (es:=es) (λe' he'=>h e' (by simp [he'])) hn.2
  simp only [dm]
  cases hq:aj k e.1 with
  |true=>
   simp only [cond_true,cI]
   have e1:=h3.1 hq
   cases hp:aj k k' with
   |true=>
    simp only [cond_true]
    refine wd hk' (λe' he'=>h e' (by simp [he'])) ?_
    rw [←h1.1 hp,e1]
    exact hn.1
   |false=>
    have:aj k' e.1=false:=by
     cases hr:aj k' e.1 with
     |false=>rfl
     |true=>rw [h1.2 (e1.trans (h4.1 hr).symm)] at hp;cases hp
    simp only [this,cond_false]
  |false=>
   simp only [cond_false,cI,ih]
   cases hp:aj k k' with
   |true=>
    have:aj k' e.1=false:=by
     cases hr:aj k' e.1 with
     |false=>rfl
     |true=>rw [h3.2 ((h1.1 hp).trans (h4.1 hr))] at hq;cases hq
    simp only [this,cond_false,cond_true]
   |false=>rfl
theorem Af (r:RW g T w){ro:Nat}{t ty tk:TypeId}{m k y:TV}{um uk:Value}{T':VT}(h:tr P ro T t m k=some (y,T'))(hm:VR g w m um)(hk:VR g w k uk):
  ∃u g' w',(delete_ #[t,tk] ty #[um,uk]).run P w=.ok u w'∧VR g' w' y u∧Evo g w g' w'∧RW g' T' w'∧Fix ro g T w T' w':=by
 unfold tr at h
 split at h
 ·rename_i kt et kv id hu hkv
  have hkv':=bS hkv hk
  subst hkv'
  split at h
  ·rename_i sh sh' look es ck hsh hid
   cases hb:(fG sh sh' &&sh.fits uk&&ble ro id) with
   |false=>rw [hb] at h;cases h
   |true=>
    rw [hb] at h
    simp only [and_eq_true] at hb
    obtain ⟨⟨hq,hf⟩,hr⟩:=hb
    have hr:=le_of_ble_eq_true hr
    have:=pV hq
    subst this
    injection h with h;injection h with e1 e2;subst e1 e2
    obtain ⟨b,hb,rfl⟩:=hm.map_inv
    obtain ⟨b',h1,⟨ms,h2,h3,h4,h5,h6,h7,h8⟩,_⟩:=r.obj id _ hid rfl
    rw [hb] at h1;injection h1 with h1;subst h1
    have hfit:∀e∈ms.toList,sh.fits e.key=true:=λe he=>by
     have:e.key∈ms.toList.map (·.key):=mem_map_of_mem he
     rw [h3] at this
     obtain ⟨e',he',heq⟩:=mem_map.1 this
     rw [←heq];exact h6 e' he'
    have hfk:=gA hsh hf w ms.toList hfit
    have hgo:(getObj b).run P w=.ok (.map ms ck) w:=by simp [getObj,Sem.run,h2]
    have fin:∀(ms':Array MapEntry),(delete_ #[t,tk] ty #[.map (some b),uk]).run P w=.ok (.tuple #[]) {w with heap:=w.heap.setIfInBounds b (.map ms' ck)}→
      ms'.toList.map (·.key)=(dm uk es).map (·.1)→VRs g w ((dm uk es).map (·.2.1)) (ms'.toList.map (·.val))→ms'.toList.map (·.born)=(dm uk es).map (·.2.2)→
      ∃u g' w',(delete_ #[t,tk] ty #[.map (some b),uk]).run P w=.ok u w'∧VR g' w' (.val (.tuple #[])) u∧Evo g w g' w'∧
       RW g' {T with objs:=T.objs.set id (.map sh (λk'=>bif aj uk k' then none else look k') (dm uk es) ck)} w'∧
       Fix ro g T w {T with objs:=T.objs.set id (.map sh (λk'=>bif aj uk k' then none else look k') (dm uk es) ck)} w':=by
     intro ms' hrun p1 p2 p3
     obtain ⟨w1,w2,w3,w4⟩:=iq (w:=w) (ms':=ms') (ck':=ck) h2
     obtain ⟨_,e0⟩:=r.setObj hid rfl hb (o':=.gone) (w':={w with heap:=w.heap.setIfInBounds b (.map ms' ck)}) ⟨rfl,rfl,rfl⟩ w3 w2 w4 (λh=>by cases h)
     obtain ⟨r',e'⟩:=r.setObj hid rfl hb (o':=.map sh (λk'=>bif aj uk k' then none else look k') (dm uk es) ck) (w':={w with heap:=w.heap.setIfInBounds b (.map ms' ck)}) ⟨rfl,rfl,rfl⟩ w3 w2 w4
      (λ_=>⟨ms',w1,p1,p2.mono e0,p3,λe he=>h6 e ((nn es).subset he),((nn es).map _).nodup h7,λk' hk'=>by
       simp only [uy hf hk' h6 h7,h8 k' hk']⟩)
     exact ⟨_,g,_,hrun,.val _,e',r',cq r hid rfl hb hr w2⟩
    rcases mI (k:=uk) 0 h3 h4 with ⟨g1,g2⟩ | ⟨x,j,v0,g1,g2,g3,⟨e,me,k1,k2,k3,k4,k5,k6⟩,k7⟩
    ·rw [g2] at hfk
     refine fin ms ?_ ?_ ?_ ?_
     ·simp [delete_,run_underlying hu,hgo,cZ hsh hf,hfk,Go.MapKept.run_setObj_map _ h2]
     ·rw [lH g1,h3]
     ·rw [lH g1];exact h4
     ·rw [lH g1,h5]
    ·rw [g2] at hfk
     simp only [zero_add] at hfk
     have hset:=yJ (k:=uk) j e k1 k3 k7
     have hjm:j<ms.size:=by have:=(List.getElem?_eq_some_iff.1 k2).1;simpa using this
     have hml:(ms.eraseIdxIfInBounds j).toList=ms.toList.eraseIdx j:=by simp [Array.eraseIdxIfInBounds,hjm]
     have hme:∀{α β:Type} (f:α→β) (l:List α) (j:Nat),(l.eraseIdx j).map f=(l.map f).eraseIdx j:=λf l j=>by
      apply ext_getElem?
      intro i
      simp only [getElem?_map,List.getElem?_eraseIdx]
      split<;>rfl
     refine fin (ms.eraseIdxIfInBounds j) ?_ ?_ ?_ ?_
     ·simp [delete_,run_underlying hu,hgo,cZ hsh hf,hfk,Go.MapKept.run_setObj_map _ h2]
     ·rw [hml,hset,hme,hme,h3]
     ·rw [hml,hset,hme,hme]
      refine ⟨by have:=h4.1;simp [List.length_eraseIdx] at this ⊢;rw [this],λi x u hx hu=> ?_⟩
      rw [List.getElem?_eraseIdx] at hx hu
      split at hx
      ·rename_i hi;rw [if_pos hi] at hu;exact h4.2 i x u hx hu
      ·rename_i hi;rw [if_neg hi] at hu;exact h4.2 (i+1) x u hx hu
     ·rw [hml,hset,hme,hme,h5]
  ·cases h
 ·rename_i kt et kv hu hkv
  have hkv':=bS hkv hk
  subst hkv'
  split at h
  ·rename_i sh hsh
   cases hf:sh.fits uk with
   |false=>rw [hf] at h;cases h
   |true=>
    rw [hf] at h
    injection h with h;injection h with e1 e2;subst e1 e2
    rw [hm.val_inv]
    exact ⟨_,g,w,by simp [delete_,run_underlying hu,cZ hsh hf],.val _,Evo.refl _ _,r,Fix.refl _ _ _ _⟩
  ·cases h
 ·cases h
end
section
variable {P:Program}{g:Gh}{T:VT}{w:World}
def Hh (z:Value)(n:Nat):List TV:=(zeroCells z.cells n).toList.map .val
def we (P:Program)(ro:Nat)(T:VT)(t:TypeId)(d:TV):Option (TV × VT):=match P.underlying t,d with
 |some (.slice e),.row sz id off m=>match m with
  | 0=>some (.val (.tuple #[]),T)
  |m+1=>match P.info? e,T.objs[id]? with
   |some i,some (.row cs)=>match i.zero with
    |some z=>bif beq i.size sz&&beq z.cells.size sz&&z.cells.toList.all oneCell' &&ble ((off+(m+1))*sz) cs.length&&ble ro id then
      some (.val (.tuple #[]),{T with objs:=T.objs.set id (.row (aU cs (off*sz) (Hh z (m+1))))}) else none
    |none=>none
   |_,_=>none
 |some (.map kt _),.map id=>match bY P kt,T.objs[id]? with
  |some sh,some (.map sh' _ _ ck)=>bif fG sh sh' &&ble ro id then some (.val (.tuple #[]),{T with objs:=T.objs.set id (.map sh (λ_=>none) [] ck)}) else none
  |_,_=>none
 |_,_=>none
theorem BA (r:RW g T w){ro:Nat}{t ty:TypeId}{d y:TV}{ud:Value}{T':VT}(h:we P ro T t d=some (y,T'))(hd:VR g w d ud):
  ∃u g' w',(clear_ #[t] ty #[ud]).run P w=.ok u w'∧VR g' w' y u∧Evo g w g' w'∧RW g' T' w'∧Fix ro g T w T' w':=by
 unfold we at h
 split at h
 ·rename_i e sz id off m ht
  obtain ⟨b,c,f1,f2,f3,f4,f5,rfl⟩:=hd.row_inv
  split at h
  ·injection h with h;injection h with e1 e2;subst e1 e2
   exact ⟨.tuple #[],g,w,by simp [clear_,run_underlying ht],.val _,Evo.refl _ _,r,Fix.refl _ _ _ _⟩
  ·rename_i m
   split at h
   ·rename_i i cs hi hid
    split at h
    ·rename_i z hz
     cases hb0:(beq i.size sz&&beq z.cells.size sz&&z.cells.toList.all oneCell' &&ble ((off+(m+1))*sz) cs.length&&ble ro id) with
     |false=>rw [hb0] at h;cases h
     |true=>
      rw [hb0] at h
      simp only [and_eq_true] at hb0
      obtain ⟨⟨⟨⟨b1,b2⟩,b3⟩,b4⟩,b5⟩:=hb0
      have b1:=eq_of_beq_eq_true b1
      have b2:=eq_of_beq_eq_true b2
      have b4:=le_of_ble_eq_true b4
      subst b1
      injection h with h;injection h with e1 e2;subst e1 e2
      have hzl:(zeroCells z.cells (m+1)).toList.length=(m+1)*i.size:=by rw [length_toList,size_zeroCells,b2]
      obtain ⟨w',k1,k3,k4,k5⟩:=Bx (P:=P) (ro:=ro) (off:=off*i.size) r hid f1 (VRs.vals g w (zeroCells z.cells (m+1)).toList) (v6 (all_eq_true.1 b3) _)
       (by rw [List.length_map,hzl,←add_mul];exact b4) (le_of_ble_eq_true b5)
      exact ⟨.tuple #[],g,w',by simp [clear_,run_underlying ht,zeroValue,kK hi,hz,k1],.val _,k3,k4,k5⟩
    ·cases h
   ·cases h
 ·rename_i kt et id hu
  split at h
  ·rename_i sh sh' look es ck hsh hid
   cases hb:(fG sh sh' &&ble ro id) with
   |false=>rw [hb] at h;cases h
   |true=>
    rw [hb] at h
    simp only [and_eq_true] at hb
    obtain ⟨hq,hr⟩:=hb
    have hr:=le_of_ble_eq_true hr
    injection h with h;injection h with e1 e2;subst e1 e2
    obtain ⟨b,hb,rfl⟩:=hd.map_inv
    obtain ⟨b',h1,⟨ms,h2,h3,h4,h5,h6,h7,h8⟩,_⟩:=r.obj id _ hid rfl
    rw [hb] at h1;injection h1 with h1;subst h1
    have hgo:(getObj b).run P w=.ok (.map ms ck) w:=by simp [getObj,Sem.run,h2]
    obtain ⟨w1,w2,w3,w4⟩:=iq (w:=w) (ms':= #[]) (ck':=ck) h2
    obtain ⟨r',e'⟩:=r.setObj hid rfl hb (o':=.map sh (λ_=>none) [] ck) (w':={w with heap:=w.heap.setIfInBounds b (.map #[] ck)}) ⟨rfl,rfl,rfl⟩ w3 w2 w4
     (λ_=>⟨#[],w1,rfl,VRs.nil _ _,rfl,λe he=>(by cases he),nodup_nil,λk' hk'=>rfl⟩)
    exact ⟨.tuple #[],g,_,by simp [clear_,run_underlying hu,hgo,Go.MapKept.run_setObj_map _ h2],.val _,e',r',cq r hid rfl hb hr w2⟩
  ·cases h
 ·cases h
end
section
variable {P:Program}{g:Gh}{T:VT}{w:World}
def np (k:Value):List (Value × TV × Nat)→Option (TV × Nat)
 |[]=>none
 |e::l=>bif aj k e.1 then some e.2 else np k l
theorem wg {k:Value}:∀{es:List (Value × TV × Nat)} (j:Nat) e,es[j]?=some e→aj k e.1=true→(∀j',j' <j→∀e,es[j']?=some e→aj k e.1=false)→np k es=some e.2
 |[],_,_,h,_,_=>by simp at h
 |e0::es,0,e,h,hq,_=>by
  simp at h;subst h
  simp [np,hq]
 |e0::es,j+1,e,h,hq,hb=>by
  have h0:=hb 0 (by omega) e0 rfl
  simp only [np,h0,cond_false]
  exact wg j e (by simpa using h) hq λj' hj e' he'=>hb (j' +1) (by omega) e' (by simpa using he')
theorem r8 {k:Value}:∀{es:List (Value × TV × Nat)},cI k es=none→np k es=none
 |[],_=>rfl
 |e::es,h=>by
  simp only [cI] at h
  cases hq:aj k e.1 with
  |true=>rw [hq] at h;cases h
  |false=>
   rw [hq] at h
   simp only [np,hq,cond_false]
   exact r8 h
def tu (P:Program)(ro:Nat)(T:VT)(t:TypeId)(m k:TV):Option (TV × VT):=match P.underlying t,bM k,m with
 |some (.map kt et),some kv,.map id=>match bY P kt,P.info? et,T.objs[id]? with
  |some sh,some inf,some (.map sh' look es ck)=>bif fG sh sh' &&sh.fits kv&&ble ro id then (match np kv es with
    |some xb=>some (.tup [xb.1,.val (.int .i64 xb.2)],{T with objs:=T.objs.set id (.map sh look es ck)})
    |none=>match inf.zero with
     |some z=>some (.tup [.val z,.val (.int .i64 ck)],{T with objs:=T.objs.set id (.map sh (λk'=>bif aj kv k' then some (.val z) else look k') (bt kv (.val z) ck es) (ck+1))})
     |none=>none) else none
  |_,_,_=>none
 |_,_,_=>none
theorem Ag (r:RW g T w){ro:Nat}{t:TypeId}{m k y:TV}{um uk:Value}{T':VT}(h:tu P ro T t m k=some (y,T'))(hm:VR g w m um)(hk:VR g w k uk):
  ∃u g' w',(Instr.mapEntry t um uk).run P w=.ok u w'∧VR g' w' y u∧Evo g w g' w'∧RW g' T' w'∧Fix ro g T w T' w':=by
 unfold tu at h
 split at h
 ·rename_i kt et kv id hu hkv
  have hkv':=bS hkv hk
  subst hkv'
  split at h
  ·rename_i sh inf sh' look es ck hsh hinf hid
   cases hb:(fG sh sh' &&sh.fits uk&&ble ro id) with
   |false=>rw [hb] at h;cases h
   |true=>
    rw [hb] at h
    simp only [and_eq_true] at hb
    obtain ⟨⟨hq,hf⟩,hr⟩:=hb
    have hr:=le_of_ble_eq_true hr
    have:=pV hq
    subst this
    simp only [cond_true] at h
    obtain ⟨b,hb,rfl⟩:=hm.map_inv
    obtain ⟨b',h1,⟨ms,h2,h3,h4,h5,h6,h7,h8⟩,_⟩:=r.obj id _ hid rfl
    rw [hb] at h1;injection h1 with h1;subst h1
    have hfit:∀e∈ms.toList,sh.fits e.key=true:=λe he=>by
     have:e.key∈ms.toList.map (·.key):=mem_map_of_mem he
     rw [h3] at this
     obtain ⟨e',he',heq⟩:=mem_map.1 this
     rw [←heq];exact h6 e' he'
    have hfk:=gA hsh hf w ms.toList hfit
    have hgo:(getObj b).run P w=.ok (.map ms ck) w:=by simp [getObj,Sem.run,h2]
    rcases mI (k:=uk) 0 h3 h4 with ⟨g1,g2⟩ | ⟨x,j,v0,g1,g2,g3,⟨e,me,k1,k2,k3,k4,k5,k6⟩,k7⟩
    ·rw [g2] at hfk
     rw [r8 g1] at h
     split at h
     ·rename_i xb hx;cases hx
     ·split at h
      ·rename_i z hz
       injection h with h;injection h with e1 e2;subst e1 e2
       have hzr:∀w',(zeroValue et).run P w'=.ok z w':=λw'=>by simp [zeroValue,kK hinf,hz]
       obtain ⟨w1,w2,w3,w4⟩:=iq (w:=w) (ms':=ms.push {key:=uk,val:=z,born:=ck}) (ck':=ck+1) h2
       obtain ⟨_,e0⟩:=r.setObj hid rfl hb (o':=.gone) (w':={w with heap:=w.heap.setIfInBounds b (.map (ms.push {key:=uk,val:=z,born:=ck}) (ck+1))}) ⟨rfl,rfl,rfl⟩ w3 w2 w4 (λh=>by cases h)
       obtain ⟨r',e'⟩:=r.setObj hid rfl hb (o':=.map sh (λk'=>bif aj uk k' then some (.val z) else look k') (bt uk (.val z) ck es) (ck+1)) (w':={w with heap:=w.heap.setIfInBounds b (.map (ms.push {key:=uk,val:=z,born:=ck}) (ck+1))}) ⟨rfl,rfl,rfl⟩ w3 w2 w4
        (λ_=>⟨_,w1,by rw [gZ _ ck g1];simp [h3],by
         rw [gZ _ ck g1]
         have:=h4.app (.cons (.val z) (.nil g w))
         exact (by simpa using this:VRs g w _ _).mono e0,by rw [gZ _ ck g1];simp [h5],oA hf _ ck h6,nk hf _ ck h6 h7,λk' hk'=>by
         simp only [lG hf hk' _ ck h6,h8 k' hk']⟩)
       refine ⟨.tuple #[z,.int .i64 ck],g,_,?_,.tup (us:= [z,.int .i64 ck]) rfl (λj x u hx hu=> ?_),e',r',cq r hid rfl hb hr w2⟩
       ·simp [Instr.mapEntry,run_underlying hu,hgo,cZ hsh hf,hfk,hzr,Go.MapKept.run_setObj_map _ h2,goInt]
       ·match j,hx,hu with
        | 0,hx,hu=>simp at hx hu;subst hx hu;exact .val _
        | 1,hx,hu=>simp at hx hu;subst hx hu;exact .val _
      ·cases h
    ·rw [g2] at hfk
     have hmf:=wg (k:=uk) j e k1 k3 k7
     rw [hmf] at h
     simp only at h
     injection h with h;injection h with e1 e2;subst e1 e2
     have hkey:me.key=uk:=by rw [k4];exact ((bZ hf (h6 e (mem_of_getElem? k1))).1 k3).symm
     have hjm:j<ms.size:=by have:=(List.getElem?_eq_some_iff.1 k2).1;simpa using this
     have hmj:ms[j]?=some me:=by simpa using k2
     have hml:(ms.modify j λe=>{e with key:=uk})=ms:=by
      apply Array.ext_getElem?
      intro i
      rw [getElem?_modify]
      by_cases hij:j=i
      ·subst hij
       rw [if_pos rfl,hmj]
       simp only [map_some,←hkey]
      ·rw [if_neg hij]
     have hst:(keyThatStays me.key uk).run P w=.ok uk w:=by
      simp only [hkey,keyThatStays,oa hf,if_true,run_pure]
     have hborn:e.2.2=me.born:=by
      have h9:=congrArg (·[j]?) h5
      simp only [getElem?_map,k1,k2,map_some,Option.some.injEq] at h9
      exact h9.symm
     obtain ⟨w1,w2,w3,w4⟩:=iq (w:=w) (ms':=ms) (ck':=ck) h2
     obtain ⟨_,e0⟩:=r.setObj hid rfl hb (o':=.gone) (w':={w with heap:=w.heap.setIfInBounds b (.map ms ck)}) ⟨rfl,rfl,rfl⟩ w3 w2 w4 (λh=>by cases h)
     obtain ⟨r',e'⟩:=r.setObj hid rfl hb (o':=.map sh look es ck) (w':={w with heap:=w.heap.setIfInBounds b (.map ms ck)}) ⟨rfl,rfl,rfl⟩ w3 w2 w4
      (λ_=>⟨ms,w1,h3,h4.mono e0,h5,h6,h7,h8⟩)
     refine ⟨.tuple #[v0,.int .i64 e.2.2],g,_,?_,.tup (us:= [v0,.int .i64 e.2.2]) rfl (λj x u hx hu=> ?_),e',r',cq r hid rfl hb hr w2⟩
     ·simp only [zero_add] at hfk
      simp [Instr.mapEntry,run_underlying hu,hgo,cZ hsh hf,hfk,hst,hml,Go.MapKept.run_setObj_map _ h2,goInt,hmj,hborn]
     ·match j,hx,hu with
      | 0,hx,hu=>simp at hx hu;subst hx hu;rw [←k6];exact g3.mono e0
      | 1,hx,hu=>simp at hx hu;subst hx hu;exact .val _
  ·cases h
 ·cases h
def Ah (born:Nat):List (Value × TV × Nat)→Option Value
 |[]=>none
 |e::l=>bif beq e.2.2 born then some e.1 else Ah born l
theorem yK {born:Nat}{key:Value}:∀{es:List (Value × TV × Nat)},Ah born es=some key→∃(j:Nat) (e:Value × TV × Nat),es[j]?=some e∧e.1=key∧e.2.2=born∧∀j' e',j' <j→es[j']?=some e'→e'.2.2≠born
 |[],h=>by cases h
 |e::es,h=>by
  simp only [Ah] at h
  cases hb:beq e.2.2 born with
  |true=>
   rw [hb] at h;injection h with h
   exact ⟨0,e,rfl,h,eq_of_beq_eq_true hb,λj' _ hj=>absurd hj (Nat.not_lt_zero _)⟩
  |false=>
   rw [hb] at h
   obtain ⟨j,e',h1,h2,h3,h4⟩:=yK (es:=es) h
   refine ⟨j+1,e',by simpa using h1,h2,h3,λj' e'' hj he=> ?_⟩
   cases j' with
   |zero=>simp at he;subst he;intro hc;rw [hc,Nat.beq_refl] at hb;cases hb
   |succ j'=>exact h4 j' e'' (by omega) (by simpa using he)
def tw (ro:Nat)(T:VT)(m s v:TV):Option (TV × VT):=match m,s with
 | .map id,.val (.int .i64 z)=>match T.objs[id]? with
  |some (.map sh look es ck)=>match Ah z.toNat es with
   |some key=>bif decide (0≤z)&&ble ro id then some (.val undef,{T with objs:=T.objs.set id (.map sh (λk'=>bif aj key k' then some v else look k') (bt key v ck es) ck)}) else none
   |none=>none
  |_=>none
 |_,_=>none
theorem Ai (r:RW g T w){ro:Nat}{t:TypeId}{m s v y:TV}{um us uv:Value}{T':VT}(h:tw ro T m s v=some (y,T'))(hm:VR g w m um)(hs:VR g w s us)(hv:VR g w v uv):
  ∃g' w',(Instr.entryStore t um us uv).run P w=.ok () w'∧VR g' w' y undef∧Evo g w g' w'∧RW g' T' w'∧Fix ro g T w T' w':=by
 unfold tw at h
 split at h
 ·rename_i id z
  have:=hs.val_inv
  subst this
  split at h
  ·rename_i sh look es ck hid
   split at h
   ·rename_i key hkey
    cases hb:(decide (0≤z)&&ble ro id) with
    |false=>rw [hb] at h;cases h
    |true=>
     rw [hb] at h
     simp only [and_eq_true,decide_eq_true_eq] at hb
     obtain ⟨hz,hr⟩:=hb
     have hr:=le_of_ble_eq_true hr
     injection h with h;injection h with e1 e2;subst e1 e2
     obtain ⟨b,hb,rfl⟩:=hm.map_inv
     obtain ⟨b',h1,⟨ms,h2,h3,h4,h5,h6,h7,h8⟩,_⟩:=r.obj id _ hid rfl
     rw [hb] at h1;injection h1 with h1;subst h1
     obtain ⟨j,e,k1,k2,k3,k4⟩:=yK hkey
     have hf:sh.fits key=true:=by rw [←k2];exact h6 e (mem_of_getElem? k1)
     have hje:j<es.length:=(List.getElem?_eq_some_iff.1 k1).1
     have hkl:ms.toList.length=es.length:=by have:=congrArg length h3;simpa using this
     have hjm:j<ms.size:=by rw [←length_toList,hkl];exact hje
     have hbj:∀(i:Nat) e',es[i]?=some e'→∃me,ms[i]?=some me∧me.born=e'.2.2:=λi e' he=>by
      have hi:i<ms.size:=by rw [←length_toList,hkl];exact (List.getElem?_eq_some_iff.1 he).1
      refine ⟨ms[i],Array.getElem?_eq_getElem hi,?_⟩
      have h9:=congrArg (·[i]?) h5
      simp only [getElem?_map,he,map_some,getElem?_toList,Array.getElem?_eq_getElem hi,Option.some.injEq] at h9
      exact h9
     obtain ⟨me,hme,hmb⟩:=hbj j e k1
     have hfi:ms.findIdx? (λe=>(e.born:Int)==z)=some j:=by
      rw [Array.findIdx?_eq_some_iff_getElem]
      refine ⟨hjm,?_,λi hi=> ?_⟩
      ·rw [Array.getElem?_eq_getElem hjm] at hme
       injection hme with hme
       rw [hme,hmb,k3];simp;omega
      ·have hie:i<es.length:=by omega
       obtain ⟨mi,hmi,hmib⟩:=hbj i _ (List.getElem?_eq_getElem hie)
       have hne:=k4 i _ hi (List.getElem?_eq_getElem hie)
       rw [Array.getElem?_eq_getElem (by omega)] at hmi
       injection hmi with hmi
       rw [hmi,hmib]
       simp;omega
     have hq:aj key e.1=true:=by rw [k2];exact (bZ hf hf).2 rfl
     have hpre:∀j',j' <j→∀e',es[j']?=some e'→aj key e'.1=false:=λj' hj e' he=>by
      cases hk:aj key e'.1 with
      |false=>rfl
      |true=>
       exfalso
       have e9:=(bZ hf (h6 e' (mem_of_getElem? he))).1 hk
       have hn:=(List.nodup_iff_pairwise_ne.1 h7:(es.map (·.1)).Pairwise (· ≠ ·))
       have:=List.pairwise_iff_getElem.1 hn j' j (by simp;omega) (by simpa using hje) hj
       simp only [List.getElem_map] at this
       rw [List.getElem?_eq_getElem (by omega)] at he
       rw [List.getElem?_eq_getElem hje] at k1
       injection he with he;injection k1 with k1
       rw [he,k1,k2] at this
       exact this e9.symm
     have hset:=tp (k:=key) v ck j e k1 hq hpre
     have hml:(ms.modify j λe=>{e with val:=uv}).toList=ms.toList.set j {me with val:=uv}:=by
      apply ext_getElem?
      intro i
      rw [getElem?_toList,getElem?_modify,getElem?_set]
      by_cases hij:j=i
      ·subst hij
       rw [if_pos rfl,if_pos rfl,hme]
       simp [hjm]
      ·rw [if_neg hij,if_neg hij];simp
     have hmk:me.key=key:=by
      have h9:=congrArg (·[j]?) h3
      simp only [getElem?_map,k1,map_some,getElem?_toList,hme,Option.some.injEq] at h9
      rw [h9,k2]
     have hgo:(getObj b).run P w=.ok (.map ms ck) w:=by simp [getObj,Sem.run,h2]
     obtain ⟨w1,w2,w3,w4⟩:=iq (w:=w) (ms':=ms.modify j λe=>{e with val:=uv}) (ck':=ck) h2
     obtain ⟨_,e0⟩:=r.setObj hid rfl hb (o':=.gone) (w':={w with heap:=w.heap.setIfInBounds b (.map (ms.modify j λe=>{e with val:=uv}) ck)}) ⟨rfl,rfl,rfl⟩ w3 w2 w4 (λh=>by cases h)
     obtain ⟨r',e'⟩:=r.setObj hid rfl hb (o':=.map sh (λk'=>bif aj key k' then some v else look k') (bt key v ck es) ck) (w':={w with heap:=w.heap.setIfInBounds b (.map (ms.modify j λe=>{e with val:=uv}) ck)}) ⟨rfl,rfl,rfl⟩ w3 w2 w4
      (λ_=>⟨_,w1,by rw [hml,hset,map_set,map_set,h3,hmk],by
       rw [hml,hset,map_set,map_set]
       exact (h4.set j hv).mono e0,by rw [hml,hset,map_set,map_set,h5,←hmb],oA hf v ck h6,nk hf v ck h6 h7,λk' hk'=>by
       simp only [lG hf hk' v ck h6,h8 k' hk']⟩)
     exact ⟨g,_,by simp [Instr.entryStore,hgo,asInt,asIntOf,hfi,Go.MapKept.run_setObj_map _ h2],.val _,e',r',cq r hid rfl hb hr w2⟩
   ·cases h
  ·cases h
 ·cases h
end
section
variable {P:Program}
abbrev aC:=Nat→Option (List TV)
def GOk (G:aC)(g:Gh)(w:World):Prop:=∀n cs,G n=some cs→VR g w (.elt cs) (.pointer (some ⟨n,0,none⟩))
theorem GOk.mono {G:aC}{g g':Gh}{w w':World}(h:GOk G g w)(e:Evo g w g' w'):GOk G g' w':=λn cs hn=>(h n cs hn).mono e
def aF (G:aC)(σ:List TV):Operand→TV
 | .tmp t=>σ.getD t .dead
 | .const v=>.val v
 | .global n=>match G n with
  |some cs=>.elt cs
  |none=>.val (.pointer (some ⟨n,0,none⟩))
 | .func f=>.fn (.func f) [] []
theorem dC {G:aC}{g:Gh}{w:World}{σ:List TV}{a:Act}(hG:GOk G g w)(h:VRs g w σ a.tmps.toList)(x:Operand):VR g w (aF G σ x) (a.eval x):=by
 cases x with
 |global n=>
  simp only [aF]
  split
  ·rename_i cs hn;exact hG n cs hn
  ·exact .val _
 |tmp t=>exact qY h (.tmp t)
 |const v=>exact qY h (.const v)
 |func f=>exact qY h (.func f)
def Aj (P:Program)(op:BinOp)(t:TypeId)(x y:TV):Option TV:=match P.underlying t,y with
 |some (.slice _),.val (.slice none _ _)=>match x with
  | .row .. =>dk op false
  | .sl .. =>dk op false
  | .vec _ (_::_) _=>dk op false
  | .vec _ [] .full=>dk op false
  | .vec _ [] .live=>dk op false
  | .vec _ [] (.past _ _)=>dk op false
  |_=>none
 |some (.pointer e),.ptr j o2=>(match x with
  | .ptr i o1=>bif beq i j then (match P.info? e with
   |some inf=>bif beq inf.size 0 then none else dk op (beq o1 o2)
   |none=>none) else none
  |_=>none)
 |_,_=>none
theorem Gi {g:Gh}{w:World}{op:BinOp}{t:TypeId}{xo yo:Operand}{x y r:TV}{u v:Value}(h:Aj P op t x y=some r)(hx:VR g w x u)(hy:VR g w y v):
  Looks0 P g w (do eqGuard op t xo yo u v;binOp op t u v) r:=by
 unfold Aj at h
 split at h
 ·rename_i e n c hu
  rw [hy.val_inv]
  have go:∀a m k,u=.slice (some a) m k→dk op false=some r→Looks0 P g w (do eqGuard op t xo yo u (.slice none n c);binOp op t u (.slice none n c)) r:=by
   intro a m k h1 h2
   subst h1
   refine gp h2 (λop=>by cases op<;>rfl) (λw'=>dF (λd w=> ?_) w') rfl rfl
   simp [equalIn,run_underlying hu]
  split at h
  ·obtain ⟨b,c',_,_,_,_,_,h1⟩:=hx.row_inv
   exact go _ _ _ h1 h
  ·obtain ⟨b,_,h1⟩:=hx.sl_inv
   exact go _ _ _ h1 h
  ·rcases hx.vec_inv with ⟨_,h2,_⟩ | ⟨b,o,c',us,h1,_⟩ | ⟨_,_,h2,_⟩
   ·cases h2
   ·exact go _ _ _ h1 h
   ·cases h2
  ·rcases hx.vec_inv with ⟨_,_,h2⟩ | ⟨b,o,c',us,h1,_⟩ | ⟨a,h1,_⟩
   ·exact h2.elim
   ·exact go _ _ _ h1 h
   ·exact go _ _ _ h1 h
  ·rcases hx.vec_inv with ⟨_,_,h2⟩ | ⟨b,o,c',us,h1,_⟩ | ⟨a,h1,_⟩
   ·exact h2.elim
   ·exact go _ _ _ h1 h
   ·exact go _ _ _ h1 h
  ·rcases hx.vec_inv with ⟨_,_,h2⟩ | ⟨b,o,c',us,h1,_⟩ | ⟨a,h1,_⟩
   ·exact h2.elim
   ·exact go _ _ _ h1 h
   ·exact go _ _ _ h1 h
  ·cases h
 ·rename_i e j o2 hu
  split at h
  ·rename_i i o1
   cases hb:beq i j with
   |false=>rw [hb] at h;cases h
   |true=>
    rw [hb] at h
    have hij:=eq_of_beq_eq_true hb
    subst hij
    simp only [cond_true] at h
    split at h
    ·rename_i inf hinf
     cases hz:beq inf.size 0 with
     |true=>rw [hz] at h;cases h
     |false=>
      rw [hz] at h
      simp only [cond_false] at h
      obtain ⟨b,hb1,rfl⟩:=hx.ptr_inv
      obtain ⟨b',hb2,rfl⟩:=hy.ptr_inv
      rw [hb1] at hb2;injection hb2 with hb2;subst hb2
      have hs:inf.size≠0:=λe=>by rw [e] at hz;cases hz
      have hq:((⟨b,o1,none⟩:Addr)==⟨b,o2,none⟩)=beq o1 o2:=by
       cases ho:beq o1 o2 with
       |true=>rw [eq_of_beq_eq_true ho];simp
       |false=>
        have:o1≠o2:=λe=>by rw [e,Nat.beq_refl] at ho;cases ho
        simp [this]
      refine gp h (λop=>by cases op<;>rfl) (λw'=>dF (λd w=> ?_) w') rfl rfl
      simp [equalIn,run_underlying hu,be hinf,hs,sameAddr,hq]
    ·cases h
  ·cases h
 ·cases h
def vz (P:Program)(op:BinOp)(t:TypeId)(x y:TV):Bool:=match P.underlying t,op,x,y with
 |some (.slice _),.eql,.vec _ [] .none,.val (.slice none _ _)=>true
 |some (.slice _),.neq,.vec _ [] .none,.val (.slice none _ _)=>true
 |some (.slice _),.eql,.vec _ [] (.tail ..),.val (.slice none _ _)=>true
 |some (.slice _),.neq,.vec _ [] (.tail ..),.val (.slice none _ _)=>true
 |_,_,_,_=>false
theorem DH {g:Gh}{w:World}{op:BinOp}{t:TypeId}{xo yo:Operand}{x y:TV}{u v:Value}(h:vz P op t x y=true)(hx:VR g w x u)(hy:VR g w y v):
  ∃b,∀w',(do eqGuard op t xo yo u v;binOp op t u v:Sem Value).run P w'=.ok (.bool b) w':=by
 have go:∀{e size tok n c},P.underlying t=some (.slice e)→x=.vec size [] tok→y=.val (.slice none n c)→(op=.eql∨op=.neq)→∃b,∀w',(do eqGuard op t xo yo u v;binOp op t u v:Sem Value).run P w'=.ok (.bool b) w':=by
  intro e size tok n c hu hx1 hy1 hop
  subst hx1 hy1
  rw [hy.val_inv]
  have fin:∀{a:Option Addr} {m k:Nat} {b:Bool},(∀w',(Op.equal t (.slice a m k) (.slice none n c)).run P w'=.ok b w')→∃b,∀w',(do eqGuard op t xo yo (.slice a m k) (.slice none n c);binOp op t (.slice a m k) (.slice none n c):Sem Value).run P w'=.ok (.bool b) w':=by
   intro a m k b hb
   rcases hop with rfl | rfl
   ·obtain ⟨v',hv',hr⟩:=gp (P:=P) (g:=g) (w:=w) (op:=.eql) (t:=t) (xo:=xo) (yo:=yo) (x:=.val (.bool b)) (b:=b) rfl (λop=>by cases op<;>rfl) hb rfl rfl
    exact ⟨b,by rw [hv'.val_inv] at hr;exact hr⟩
   ·obtain ⟨v',hv',hr⟩:=gp (P:=P) (g:=g) (w:=w) (op:=.neq) (t:=t) (xo:=xo) (yo:=yo) (x:=.val (.bool (!b))) (b:=b) rfl (λop=>by cases op<;>rfl) hb rfl rfl
    exact ⟨!b,by rw [hv'.val_inv] at hr;exact hr⟩
  rcases hx.vec_inv with ⟨h1,_⟩ | ⟨b,o,c',us,h1,_⟩ | ⟨a,h1,_⟩
  ·rw [h1]
   exact fin (b:=true) λw'=>dF (λd w=>by simp [equalIn,run_underlying hu]) w'
  ·rw [h1]
   exact fin (b:=false) λw'=>dF (λd w=>by simp [equalIn,run_underlying hu]) w'
  ·rw [h1]
   exact fin (b:=false) λw'=>dF (λd w=>by simp [equalIn,run_underlying hu]) w'
 unfold vz at h
 split at h
 ·rename_i hu;exact go hu rfl rfl (.inl rfl)
 ·rename_i hu;exact go hu rfl rfl (.inr rfl)
 ·rename_i hu;exact go hu rfl rfl (.inl rfl)
 ·rename_i hu;exact go hu rfl rfl (.inr rfl)
 ·cases h
def aR (P:Program)(op:Op)(ev:Operand→TV):Option TV:=match op with
  | .binOp op t x y _=>match EY P op t (ev x) (ev y) with
    |some r=>some r
    |none=>match Aj P op t (ev x) (ev y) with
      |some r=>some r
      |none=>te P op t x y (ev x) (ev y)
  | .sliceToArrayPointer t x=>vY P t (ev x)
  | .index t x i=>match tj P t (ev x) (ev i) with
    |some r=>some r
    |none=>cM P (.index t x i) ev
  | .indexAddr t x i=>match mF P t (ev x) (ev i) with
    |some r=>some r
    |none=>eY P t (ev x) (ev i)
  | .typeAssert x _ t ok=>tq P (ev x) t ok
  | .slice t x lo hi mx=>match mJ P t (ev x) (lo.map ev) (hi.map ev) (mx.map ev) with
   |some r=>some r
   |none=>match mG P t (ev x) (lo.map ev) (hi.map ev) (mx.map ev) with
    |some r=>some r
    |none=>match mH P t (ev x) (lo.map ev) (hi.map ev) (mx.map ev) with
      |some r=>some r
      |none=>kL P t (ev x) (lo.map ev) (hi.map ev) (mx.map ev)
  | .call c=>match c.callee,c.argTypes.toList,c.args.toList with
    | .builtin .len,[t],[x]=>(match zY P t (ev x) with
      |some r=>some r
      |none=>cM P (.call c) ev)
    | .builtin .cap,[t],[x]=>zZ P t (ev x)
    |_,_,_=>none
  | .nilCheck x=>match ev x with
    | .ptr a b=>some (.ptr a b)
    | .elt cs=>some (.elt cs)
    |_=>none
  |op=>cM P op ev
theorem jy {g:Gh}{w:World}{o:Oper}{ev:Operand→TV}{ρ:Operand→Value}{y:TV}(h:aR P o.op ev=some y)(hev:∀x,VR g w (ev x) (ρ x)):
  ∃v,VR g w y v∧∀w',(execOp ρ o).run P w'=.ok (.value v) w':=by
 have old:cM P o.op ev=some y→∃v,VR g w y v∧∀w',(execOp ρ o).run P w'=.ok (.value v) w':=λh=>Dw (P:=P) h hev
 obtain ⟨dst,op,ty,pos,af,gd⟩:=o
 simp only at h old
 cases op<;>simp only [aR] at h<;>try (exact old h)
 case binOp op t x y' ty'=>
  split at h
  ·rename_i r hr
   injection h with h;subst h
   exact (Hg (P:=P) (xo:=x) (yo:=y') hr (hev x) (hev y')).next rfl
  ·split at h
   ·rename_i r hr
    injection h with h;subst h
    exact (Gi (P:=P) (xo:=x) (yo:=y') hr (hev x) (hev y')).next rfl
   ·exact old (by simpa only [cM] using h)
 case nilCheck x=>
  clear old
  split at h
  ·rename_i a b hc
   injection h with h;subst h
   have h1:=hev x
   rw [hc] at h1
   obtain ⟨c,hb,h2⟩:=h1.ptr_inv
   exact ⟨_,.ptr hb,λw'=>by simp [execOp,h2]⟩
  ·rename_i cs hc
   injection h with h;subst h
   have h1:=hev x
   rw [hc] at h1
   have h3:=h1
   obtain ⟨b,o,us,h2,_⟩:=h1.elt_inv
   rw [h2] at h3
   exact ⟨_,h3,λw'=>by simp [execOp,h2]⟩
  ·cases h
 case sliceToArrayPointer t x=>exact (Bq (P:=P) h (hev x)).next rfl
 case index t x i=>
  split at h
  ·rename_i r hr
   injection h with h;subst h
   exact (zS (P:=P) hr (hev x) (hev i)).next rfl
  ·exact old h
 case indexAddr t x i=>
  split at h
  ·rename_i r hr
   injection h with h;subst h
   exact (zT (P:=P) hr (hev x) (hev i)).next rfl
  ·exact old (by simpa only [cM] using h)
 case typeAssert x tx t ok=>exact (Ae (P:=P) (tx:=tx) h (hev x)).next rfl
 case slice t x lo hi mx=>
  split at h
  ·rename_i r hr
   injection h with h;subst h
   exact (Ad (P:=P) hr (hev x) (BR.map hev lo) (BR.map hev hi) (BR.map hev mx)).next rfl
  ·split at h
   ·rename_i r hr
    injection h with h;subst h
    exact (zW (P:=P) hr (hev x) (BR.map hev lo) (BR.map hev hi) (BR.map hev mx)).next rfl
   ·split at h
    ·rename_i r hr
     injection h with h;subst h
     exact (zX (P:=P) hr (hev x) (BR.map hev lo) (BR.map hev hi) (BR.map hev mx)).next rfl
    ·exact old (by simpa only [cM] using h)
 case call c=>
  obtain ⟨cal,args,ats⟩:=c
  split at h
  ·rename_i t x hc h1 h2
   simp only at hc h1 h2
   subst hc
   have e1:ats= #[t]:=by rw [←toArray_toList (xs:=ats),h1]
   have e2:args= #[x]:=by rw [←toArray_toList (xs:=args),h2]
   subst e1 e2
   split at h
   ·rename_i r hr
    injection h with h;subst h
    exact (DA (P:=P) (ty:=ty) hr (hev x)).next (by simp [execOp,resolve,invoke,builtin])
   ·exact old h
  ·rename_i t x hc h1 h2
   simp only at hc h1 h2
   subst hc
   have e1:ats= #[t]:=by rw [←toArray_toList (xs:=ats),h1]
   have e2:args= #[x]:=by rw [←toArray_toList (xs:=args),h2]
   subst e1 e2
   exact (DB (P:=P) (ty:=ty) h (hev x)).next (by simp [execOp,resolve,invoke,builtin])
  ·cases h
def aH (P:Program)(T:VT)(op:Op)(ev:Operand→TV):Option TV:=match op with
 | .lookup t m k ok=>cQ P T t (ev m) (ev k) ok
 | .convert s d x=>match fR P T s d (ev x) with
  |some r=>some r
  |none=>cL P T (.convert s d x) ev
 |op=>cL P T op ev
theorem oC {g:Gh}{T:VT}{w:World}(r:RW g T w){o:Oper}{ev:Operand→TV}{ρ:Operand→Value}{y:TV}(h:aH P T o.op ev=some y)(hev:∀x,VR g w (ev x) (ρ x)):
  ∃v,VR g w y v∧∀w',Same g T w w'→(execOp ρ o).run P w'=.ok (.value v) w':=by
 have old:cL P T o.op ev=some y→∃v,VR g w y v∧∀w',Same g T w w'→(execOp ρ o).run P w'=.ok (.value v) w':=λh=>vQ (P:=P) r h hev
 obtain ⟨dst,op,ty,pos,af,gd⟩:=o
 simp only at h old
 cases op<;>simp only [aH] at h<;>try (exact old h)
 case lookup t m k ok=>exact (rZ (P:=P) r h (hev m) (hev k)).next rfl
 case convert s d x=>
  split at h
  ·rename_i y' hr
   injection h with h;subst h
   exact (Bt (P:=P) r hr (hev x)).next rfl
  ·exact old h
def wh (P:Program)(T0:VT)(op:Op)(ev:Operand→TV):Option TV:=match op with
 | .lookup t m k ok=>match ev m with
  | .map id=>cQ P T0 t (.map id) (ev k) ok
  |_=>none
 |op=>vy P T0 op ev
theorem wi {T:VT}{t:TypeId}{id:Nat}{k y:TV}{ok:Bool}(h:cQ P T t (.map id) k ok=some y):(∃o,T.objs[id]?=some o∧o.live=true)∧∃kv,bM k=some kv:=by
 unfold cQ at h
 split at h
 ·rename_i hkv
  refine ⟨?_,_,hkv⟩
  split at h
  ·split at h
   ·rename_i sh _ _ _ _ _ _
    generalize KS.fits _ _=b at h
    cases b with
    |false=>cases h
    |true=>
     simp only [cond_true] at h
     split at h
     ·exact ⟨_,by assumption,rfl⟩
     ·cases h
   ·cases h
  ·cases h
 ·cases h
theorem BB {g g':Gh}{w w':World}{x:TV}{v u:Value}(h:bM x=some v)(hx:VR g w x u):VR g' w' x u:=by
 have e:=bS h hx
 subst e
 unfold bM at h
 split at h
 ·injection h with h;subst h;exact .val _
 ·simp only [map_eq_some_iff] at h
  obtain ⟨vs,h,e⟩:=h
  subst e
  have key:∀{cs:List TV} {vs:List Value},iF cs=some vs→cs=vs.map .val:=by
   intro cs
   induction cs with
   |nil=>intro vs h;injection h with h;subst h;rfl
   |cons c cs ih=>
    intro vs h
    cases c<;>simp [iF] at h
    obtain ⟨a,h,rfl⟩:=h
    rw [ih h];rfl
  rw [key h]
  exact .mk_agg (VRs.vals g' w' vs)
 ·cases h
theorem BC {g0 g:Gh}{T0:VT}{w0 w:World}(r0:RW g0 T0 w0)(e:Evo g0 w0 g w){o:Oper}{ev:Operand→TV}{ρ:Operand→Value}{y:TV}(h:wh P T0 o.op ev=some y)(hev:∀x,VR g w (ev x) (ρ x)):
  ∃v,VR g w y v∧∀w',Same g0 T0 w0 w'→(execOp ρ o).run P w'=.ok (.value v) w':=by
 have old:vy P T0 o.op ev=some y→∃v,VR g w y v∧∀w',Same g0 T0 w0 w'→(execOp ρ o).run P w'=.ok (.value v) w':=λh=>Dx (P:=P) r0 e h hev
 obtain ⟨dst,op,ty,pos,af,gd⟩:=o
 simp only at h old
 cases op<;>simp only [wh] at h<;>try (exact old h)
 case lookup t m k ok=>
  split at h
  ·rename_i id hm
   have h1:=hev m
   rw [hm] at h1
   obtain ⟨b,hb,hu⟩:=h1.map_inv
   obtain ⟨⟨oo,ho,hol⟩,kv,hkv⟩:=wi h
   obtain ⟨b0,hb0,_⟩:=r0.obj id _ ho hol
   have:=e.obj id b0 hb0
   rw [hb] at this;injection this with this;subst this
   have h2:VR g0 w0 (.map id) (ρ m):=by rw [hu];exact .map hb0
   obtain ⟨v,h3,h4⟩:=rZ (P:=P) r0 h h2 (BB hkv (hev k))
   exact ⟨v,h3.mono e,λw' hs=>by simp [execOp,h4 w' hs]⟩
  ·cases h
theorem BD {g:Gh}{T:VT}{w:World}(r:RW g T w){size id off:Nat}{cs:List TV}{u:Value}(hid:T.objs[id]?=some (.row cs))(hs:VR g w (.vec size [] (.past id off)) u):
  ∃g',Evo g w g' w∧RW g' {(T.kill id) with tails:=T.tails++ [(0,size,false)]} w∧VR g' w (.vec size [] (.tail T.tails.length 0)) u:=by
 obtain ⟨b0,hb0,⟨us0,t0,hh,_,_,_⟩,hfr,hst⟩:=r.obj id _ hid rfl
 have r1:=r.kill hid rfl hb0
 have fr1:=ni r hid rfl hb0
 have empty:∀g':Gh,(∃b lo,g'.tail T.tails.length=some ⟨b,0,0,size,0,0,lo,false,false⟩)→∀b o,TokOk g' w (.tail T.tails.length 0) size 0 b o 0:=λg' ⟨b',lo,h⟩ b o=>
  ⟨_,h,le_refl _,rfl,λ_ hlt=>absurd hlt (Nat.lt_irrefl 0),λ_ h=>by cases h⟩
 rcases hs.vec_inv with ⟨_,_,h⟩ | ⟨b,o,c,us,rfl,a1,a2,a3,a4,a5,a6,a7,a8⟩ | ⟨a,rfl,_,_⟩
 ·exact h.elim
 ·by_cases hc:0<c
  ·obtain ⟨d1,d2,d3,d4⟩:=a4 hc
   rw [hb0] at d1;injection d1 with d1;subst d1
   have hcs:bg w b0=us0.length:=by rw [aY hh];simp
   have hn:g.tail T.tails.length=none:=r.tout _ (le_refl _)
   let x:Tl:=⟨b0,o,o+c*size,size,0,t0,w.heap.size,false,false⟩
   have hhas:∀b,x.has b→b=b0:=λb h=>by
    rcases h with ⟨o',h⟩ | ⟨h,_⟩
    ·exact h.1.symm
    ·cases h
   have hgrow:∀y,g.tail T.tails.length=some y→y.e<x.e∧x.size=y.size∧x.lo=y.lo:=λy hy=>by rw [hn] at hy;cases hy
   have rT:=r1.setTail (T':={(T.kill id) with tails:=T.tails++ [(0,size,false)]}) (k:=T.tails.length) (x:=x) rfl (.inl ⟨rfl,rfl⟩)
    (λb' o' h=>by
     obtain ⟨h1,h2,h3⟩:=h
     have h1:b0=b':=h1
     subst h1
     have h3:o' <o+c*size:=h3
     rw [d4,hcs] at h3
     refine ⟨?_,?_,hst o',hfr⟩
     ·simp [cell?,hh,h3]
     ·simp [World.frozen?,hh])
    (λi oi b' h1 h2 h3 h4=>by
     have:=hhas b' h4
     subst this
     exact fr1.obj i oi h1 h2 h3)
    (λj y b' _ hy h4=>by
     have:=hhas b' h4
     subst this
     exact fr1.tl j y hy)
    hgrow (λ_=>le_refl _) (λh=>by cases h) (λh=>by rcases h with h | h<;>cases h) (le_refl _)
   refine ⟨_,Evo.setTail hgrow (λ_=>le_refl _),rT,?_⟩
   have ev:Evo g w (g.setTail T.tails.length x) w:=Evo.setTail hgrow (λ_=>le_refl _)
   exact .mk_vec (us:= []) rfl (zero_le _) a2 (by simp) ⟨x,by simp [Gh.setTail],le_refl _,rfl,λ_ _=>⟨rfl,by simp [x],rfl⟩,λ_ h=>by cases h⟩ (by simpa using VRs.nil _ w) (by simp) (by simp) (by simp)
  ·obtain rfl:c=0:=by omega
   obtain ⟨g',e1,r2,h3⟩:=r1.newTail size false
   exact ⟨g',e1,r2,.mk_vec (us:= []) rfl (le_refl _) a2 (by simp) (empty g' ⟨_,_,h3⟩ b o) (by simpa using VRs.nil _ w) (by simp) (by simp) (by simp)⟩
 ·obtain ⟨g',e1,r2,h3⟩:=r1.newTail size false
  exact ⟨g',e1,r2,.odd a (empty g' ⟨_,_,h3⟩ 0 0)⟩
def vA (P:Program)(ro:Nat)(T:VT)(t tx:TypeId)(s x:TV):Option (TV × VT):=match s with
 | .vec size [] (.past id _)=>match T.objs[id]? with
  |some (.row _)=>bif ble ro id then fA P {(T.kill id) with tails:=T.tails++ [(0,size,false)]} t tx (.vec size [] (.tail T.tails.length 0)) x else none
  |_=>none
 |_=>none
theorem wj {T T':VT}{t tx:TypeId}{s x y:TV}(h:fA P T t tx s x=some (y,T')):T'.objs.take T.objs.length=T.objs:=by
 unfold fA at h
 split at h
 ·split at h
  ·split at h
   ·split at h
    ·injection h with h;injection h with _ h;subst h
     rename_i h1 _ _ _
     simp [qt h1]
    ·cases h
   ·cases h
  ·cases h
 ·cases h
theorem DI {g:Gh}{T:VT}{w:World}(r:RW g T w){ro:Nat}{t tx ty:TypeId}{s x y:TV}{us ux:Value}{T':VT}(h:vA P ro T t tx s x=some (y,T'))(hs:VR g w s us)(hx:VR g w x ux):
  ∃u g' w',(append_ #[t,tx] ty #[us,ux]).run P w=.ok u w'∧VR g' w' y u∧Evo g w g' w'∧RW g' T' w'∧Fix ro g T w T' w':=by
 unfold vA at h
 split at h
 ·rename_i size id off
  split at h
  ·rename_i cs hid
   cases hb:ble ro id with
   |false=>rw [hb] at h;cases h
   |true=>
    rw [hb] at h
    simp only [cond_true] at h
    have hb:=le_of_ble_eq_true hb
    obtain ⟨g1,e1,r1,v1⟩:=BD r hid hs
    obtain ⟨v,g',w',k1,k2,k3,k4,k5⟩:=rS (P:=P) (ty:=ty) r1 h v1 (hx.mono e1)
    have f1:Fix ro g T w {(T.kill id) with tails:=T.tails++ [(0,size,false)]} w:=by
     refine ⟨by simp [VT.kill],λi hi hl=> ?_,λ_ _ _ _ _ _ _=>rfl⟩
     simp only [VT.kill]
     rw [List.getElem?_set_ne (by omega)]
    exact ⟨v,g',w',k1,k2,e1.trans k3,k4,f1.trans e1 (Fix.of_same k5 (wj h))⟩
  ·cases h
 ·cases h
def lI (P:Program)(ro:Nat)(T:VT)(op:Op)(ev:Operand→TV):Option (TV × VT):=match op with
 | .makeSlice t l c=>kQ P T t (ev l) (ev c)
 | .store t a x=>kw P ro T t (ev a) (ev x)
 | .mapUpdate t m k v=>pW P ro T t (ev m) (ev k) (ev v)
 | .insert t m k v=>pW P ro T t (ev m) (ev k) (ev v)
 | .mapEntry t m k=>tu P ro T t (ev m) (ev k)
 | .entryStore _ m s v=>tw ro T (ev m) (ev s) (ev v)
 | .makeMap t r=>iY P T t (r.map ev)
 | .call c=>match c.callee,c.argTypes.toList,c.args.toList with
  | .builtin .append,[t,tx],[s,x]=>bif fQ (P.underlying tx) then (match r7 P T t tx (ev s) (ev x) with
   |some r=>some r
   |none=>match vA P ro T t tx (ev s) (ev x) with
    |some r=>some r
    |none=>rV P ro T t tx (ev s) (ev x)) else Aa P T t tx (ev s) (ev x)
  | .builtin .copy,[t,tx],[s,x]=>(match wc P ro T t tx (ev s) (ev x) with
   |some r=>some r
   |none=>wb P ro T t tx (ev s) (ev x))
  | .builtin .delete,[t,_],[m,k]=>tr P ro T t (ev m) (ev k)
  | .builtin .clear,[t],[m]=>we P ro T t (ev m)
  |_,_,_=>none
 |_=>none
theorem DJ {ro:Nat}{g:Gh}{T T':VT}{w:World}(r:RW g T w){o:Oper}{ev:Operand→TV}{ρ:Operand→Value}{y:TV}(hp:lI P ro T o.op ev=some (y,T'))(hev:∀x,VR g w (ev x) (ρ x)):
  ∃m v g' w',(execOp ρ o).run P w=.ok m w'∧fB m=some v∧VR g' w' y v∧Evo g w g' w'∧RW g' T' w'∧Fix ro g T w T' w':=by
 obtain ⟨dst,op,ty,pos,af,gd⟩:=o
 simp only at hp
 cases op<;>simp only [lI] at hp<;>try (cases hp)
 case makeSlice t l c=>
  obtain ⟨h1,h2⟩:=Br (P:=P) r hp (hev l) (hev c)
  obtain ⟨v,g',w',k1,k2,k3,k4,k5⟩:=h1
  exact ⟨.value v,v,g',w',by simp [execOp,k1],rfl,k2,k3,k4,Fix.of_same k5 h2⟩
 case store t a x=>
  obtain ⟨g',w',h2,h3,h4,h5,h6⟩:=rW (P:=P) r hp (hev a) (hev x)
  exact ⟨.skip,undef,g',w',by simp [execOp,h2],rfl,h3,h4,h5,h6⟩
 case mapUpdate t m k v=>
  obtain ⟨g',w',h2,h3,h4,h5,h6⟩:=r6 (P:=P) r hp (hev m) (hev k) (hev v)
  exact ⟨.skip,undef,g',w',by simp [execOp,h2],rfl,h3,h4,h5,h6⟩
 case insert t m k v=>
  obtain ⟨g',w',h2,h3,h4,h5,h6⟩:=r6 (P:=P) r hp (hev m) (hev k) (hev v)
  exact ⟨.skip,undef,g',w',by simp [execOp,h2],rfl,h3,h4,h5,h6⟩
 case mapEntry t m k=>
  obtain ⟨u,g',w',h2,h3,h4,h5,h6⟩:=Ag (P:=P) r hp (hev m) (hev k)
  exact ⟨.value u,u,g',w',by simp [execOp,h2],rfl,h3,h4,h5,h6⟩
 case entryStore t m s v=>
  obtain ⟨g',w',h2,h3,h4,h5,h6⟩:=Ai (P:=P) (t:=t) r hp (hev m) (hev s) (hev v)
  exact ⟨.skip,undef,g',w',by simp [execOp,h2],rfl,h3,h4,h5,h6⟩
 case makeMap t rr=>
  obtain ⟨h1,h2⟩:=ym (P:=P) r hp (BR.map hev rr)
  obtain ⟨v,g',w',k1,k2,k3,k4,k5⟩:=h1
  exact ⟨.value v,v,g',w',by simp [execOp,k1],rfl,k2,k3,k4,Fix.of_same k5 h2⟩
 case call c=>
  obtain ⟨cal,args,ats⟩:=c
  split at hp
  ·rename_i t tx s x hc h1 h2
   simp only at hc h1 h2
   subst hc
   have e1:ats= #[t,tx]:=by rw [←toArray_toList (xs:=ats),h1]
   have e2:args= #[s,x]:=by rw [←toArray_toList (xs:=args),h2]
   subst e1 e2
   cases hk:fQ (P.underlying tx) with
   |false=>
    rw [hk] at hp
    obtain ⟨u,g',w',k1,k2,k3,k4,k5⟩:=DD (P:=P) (ro:=ro) (ty:=ty) r hp (hev s) (hev x)
    exact ⟨.value u,u,g',w',by simp [execOp,resolve,invoke,builtin,k1],rfl,k2,k3,k4,k5⟩
   |true=>
    rw [hk] at hp
    simp only [cond_true] at hp
    split at hp
    ·rename_i q hq
     injection hp with hp;subst hp
     obtain ⟨u,g',w',k1,k2,k3,k4,k5⟩:=DG (P:=P) (ro:=ro) (ty:=ty) r hq (hev s) (hev x) hk
     exact ⟨.value u,u,g',w',by simp [execOp,resolve,invoke,builtin,k1],rfl,k2,k3,k4,k5⟩
    split at hp
    ·rename_i q hq
     injection hp with hp;subst hp
     obtain ⟨u,g',w',k1,k2,k3,k4,k5⟩:=DI (P:=P) (ro:=ro) (ty:=ty) r hq (hev s) (hev x)
     exact ⟨.value u,u,g',w',by simp [execOp,resolve,invoke,builtin,k1],rfl,k2,k3,k4,k5⟩
    obtain ⟨u,g',w',k1,k2,k3,k4,k5⟩:=Dz (P:=P) (ty:=ty) r hp (hev s) (hev x) hk
    exact ⟨.value u,u,g',w',by simp [execOp,resolve,invoke,builtin,k1],rfl,k2,k3,k4,k5⟩
  ·rename_i t tx s x hc h1 h2
   simp only at hc h1 h2
   subst hc
   have e1:ats= #[t,tx]:=by rw [←toArray_toList (xs:=ats),h1]
   have e2:args= #[s,x]:=by rw [←toArray_toList (xs:=args),h2]
   subst e1 e2
   split at hp
   ·rename_i q hq
    injection hp with hp;subst hp
    obtain ⟨u,g',w',k1,k2,k3,k4,k5⟩:=Bz (P:=P) (ty:=ty) r hq (hev s) (hev x)
    exact ⟨.value u,u,g',w',by simp [execOp,resolve,invoke,builtin,k1],rfl,k2,k3,k4,k5⟩
   ·obtain ⟨u,g',w',k1,k2,k3,k4,k5⟩:=By (P:=P) (ty:=ty) r hp (hev s) (hev x)
    exact ⟨.value u,u,g',w',by simp [execOp,resolve,invoke,builtin,k1],rfl,k2,k3,k4,k5⟩
  ·rename_i t tk m k hc h1 h2
   simp only at hc h1 h2
   subst hc
   have e1:ats= #[t,tk]:=by rw [←toArray_toList (xs:=ats),h1]
   have e2:args= #[m,k]:=by rw [←toArray_toList (xs:=args),h2]
   subst e1 e2
   obtain ⟨u,g',w',k1,k2,k3,k4,k5⟩:=Af (P:=P) (ty:=ty) (tk:=tk) r hp (hev m) (hev k)
   exact ⟨.value u,u,g',w',by simp [execOp,resolve,invoke,builtin,k1],rfl,k2,k3,k4,k5⟩
  ·rename_i t m hc h1 h2
   simp only at hc h1 h2
   subst hc
   have e1:ats= #[t]:=by rw [←toArray_toList (xs:=ats),h1]
   have e2:args= #[m]:=by rw [←toArray_toList (xs:=args),h2]
   subst e1 e2
   obtain ⟨u,g',w',k1,k2,k3,k4,k5⟩:=BA (P:=P) (ty:=ty) r hp (hev m)
   exact ⟨.value u,u,g',w',by simp [execOp,resolve,invoke,builtin,k1],rfl,k2,k3,k4,k5⟩
  ·cases hp
def eM (P:Program)(ro:Nat)(T:VT)(op:Op)(ev:Operand→TV):Option (TV × VT):=match aR P op ev with
 |some x=>some (x,T)
 |none=>match aH P T op ev with
  |some x=>some (x,T)
  |none=>match lI P ro T op ev with
   |some r=>some r
   |none=>bif lA ro op ev then qr P T op ev else none
theorem yL {ro:Nat}{g:Gh}{T T':VT}{w:World}(r:RW g T w){o:Oper}{ev:Operand→TV}{ρ:Operand→Value}{y:TV}(h:eM P ro T o.op ev=some (y,T'))(hev:∀x,VR g w (ev x) (ρ x)):
  ∃m v g' w',(execOp ρ o).run P w=.ok m w'∧fB m=some v∧VR g' w' y v∧Evo g w g' w'∧RW g' T' w'∧Fix ro g T w T' w':=by
 unfold eM at h
 split at h
 ·rename_i x hx
  injection h with h;injection h with e1 e2;subst e1 e2
  obtain ⟨v,h1,h2⟩:=jy (P:=P) hx hev
  exact ⟨_,v,g,w,h2 w,rfl,h1,Evo.refl _ _,r,Fix.refl _ _ _ _⟩
 ·split at h
  ·rename_i x hx
   injection h with h;injection h with e1 e2;subst e1 e2
   obtain ⟨v,h1,h2⟩:=oC (P:=P) r hx hev
   exact ⟨_,v,g,w,h2 w (Same.refl _ _ _),rfl,h1,Evo.refl _ _,r,Fix.refl _ _ _ _⟩
  ·split at h
   ·rename_i p hp
    injection h with h;subst h
    exact DJ r hp hev
   ·cases hf:lA ro o.op ev with
    |false=>rw [hf] at h;cases h
    |true=>
     rw [hf] at h
     exact yE (P:=P) r hf h hev
end
section
variable {P:Program}
def bR (r:Option Nat):Fence:={wide with round:=r}
theorem mj {r:Option Nat}{n:Nat}{f:FuncId}{args:Array Value}{w:World}{R:Ending→World→Prop}(h:Calls P f args w R):CallsIn (bR r) n P f args w R:=
 (callsIn_wide (n:=n)).2 h
theorem wk {r:Option Nat}{n:Nat}{f:FuncId}{args:Array Value}{w:World}{R:Ending→World→Prop}(h:CallsIn (bR r) n P f args w R):Calls P f args w R:=
 (callsIn_wide (n:=n)).1 h
def bI:Op→Bool
 | .defer _=>false
 |_=>true
theorem Gj {r:Option Nat}{o:Oper}{a:Act}{w:World}{next:Act→World→Prop}{Q Q':Exit→Act→World→Prop}(hQ:∀e a w,(∀c,e=.panic c→¬Q e a w)∧(e=.outgrown→¬Q e a w))(hd:bI o.op=true)
  (h:o.wp P a w next Q):o.wpIn (bR r) 0 P a w next Q':=by
 refine ⟨λ_ _=>trivial,?_⟩
 have hne:∀c,o.op≠ .defer c:=λc hc=>by rw [hc] at hd;cases hd
 rw [Oper.semAt_eq _ _ _ hne]
 unfold wp at h
 generalize (execOp a.eval o).run P w=res at h ⊢
 unfold Oper.upon at h
 split at h
 ·exact h
 ·exact h
 ·exact h
 ·refine ⟨λh=>(by cases h),mj (h.mono ?_)⟩
  intro e w' he
  cases e with
  |returned v=>exact he
  |panicked ch=>exact ((hQ _ _ _).1 ch rfl he).elim
  |outgrown=>obtain ⟨a0,w0,he⟩:=he;exact ((hQ _ _ _).2 rfl he).elim
 ·refine ⟨λh=>(by cases h),λc cs _=> ?_⟩
  obtain ⟨v,w',h1,h2⟩:=h c cs
  exact ⟨v,w',h1,stepsIn_wide.2 h2⟩
 ·exact ((hQ _ _ _).1 _ rfl h).elim
 ·exact h.elim
def VPx (P:Program)(G:aC)(ro:Nat)(o:Oper)(σ:List TV)(T:VT)(K:List TV→VT→Prop):Prop:=
 ∀g w (a:Act) (next:Act→World→Prop) (Q:Exit→Act→World→Prop),RW g T w→GOk G g w→VRs g w σ a.tmps.toList→
  (∀σ' T' g' w' (a':Act),(∃v,a'=a.put o.dst v)→K σ' T'→Evo g w g' w'→RW g' T' w'→VRs g' w' σ' a'.tmps.toList→a'.defers=a.defers→Fix ro g T w T' w'→next a' w')→o.wp P a w next Q
def VPi (P:Program)(G:aC)(ro:Nat)(o:Oper)(σ:List TV)(T:VT)(K:List TV→VT→Prop):Prop:=
 ∀r g w (a:Act) (next:Act→World→Prop) (Q:Exit→Act→World→Prop),RW g T w→GOk G g w→VRs g w σ a.tmps.toList→
  (∀σ' T' g' w' (a':Act),(∃v,a'=a.put o.dst v)→K σ' T'→Evo g w g' w'→RW g' T' w'→VRs g' w' σ' a'.tmps.toList→a'.defers=a.defers→Fix ro g T w T' w'→next a' w')→o.wpIn (bR r) 0 P a w next Q
theorem VPx.toI {G:aC}{ro:Nat}{o:Oper}{σ:List TV}{T:VT}{K:List TV→VT→Prop}(h:VPx P G ro o σ T K)(hd:bI o.op=true):VPi P G ro o σ T K:=
 λr g w a next Q rw0 hG hσ hn=>Gj (Q:=λ_ _ _=>False) (λ_ _ _=>⟨λ_ _ h=>h,λ_ h=>h⟩) hd (h g w a next _ rw0 hG hσ hn)
def mk (g:Gh)(id:Nat):Deferred:={target:=.collected ((g.obj id).getD 0),args:= #[]}
abbrev KX:=Exit→List TV→VT→List Nat→Prop
def DK (g:Gh)(rd r:Option Nat):Prop:=match rd with
 |some id=>r.isSome=true∧g.obj id=r
 |none=>r=none
def VWx (P:Program)(G:aC)(rd:Option Nat)(ro:Nat)(c:Code)(σ:List TV)(T:VT)(D:List Nat)(Q:KX):Prop:=
 ∀r g w (a:Act),RW g T w→GOk G g w→VRs g w σ a.tmps.toList→a.defers=D.map (mk g)→(∀id∈D,(g.obj id).isSome=true)→DK g rd r→
  c.wpIn (bR r) 0 P (λe a' w'=>∃g' σ' T' D',Q e σ' T' D'∧Evo g w g' w'∧RW g' T' w'∧VRs g' w' σ' a'.tmps.toList∧a'.defers=D'.map (mk g')∧(∀id∈D',(g'.obj id).isSome=true)∧Fix ro g T w T' w') a w
def VCx (P:Program)(G:aC)(ro:Nat)(f:FuncId)(xs:List TV)(T:VT)(Q:TV→VT→Prop):Prop:=
 ∀g w us,RW g T w→GOk G g w→VRs g w xs us→Calls P f us.toArray w λe w'=>∃v x g' T',e=.returned v∧Q x T'∧Evo g w g' w'∧RW g' T' w'∧VR g' w' x v∧Fix ro g T w T' w'
def KG (P:Program)(G:aC)(ro id:Nat)(xs:List TV)(T:VT)(Q:TV→VT→Prop):Prop:=
 ∀g w us,RW g T w→GOk G g w→VRs g w xs us→∃b fn tmps asg body,g.obj id=some b∧(yield b us.toArray).run P w=.ok (.round b fn tmps asg body) w∧
  RoundIn wide 0 P b fn tmps asg body w λe w'=>∃v x g' T',e=.returned v∧Q x T'∧Evo g w g' w'∧RW g' T' w'∧VR g' w' x v∧Fix ro g T w T' w'
theorem jz {g g':Gh}{w w':World}(e:Evo g w g' w'){D:List Nat}(h:∀id∈D,(g.obj id).isSome=true):D.map (mk g')=D.map (mk g):=by
 apply List.map_congr_left
 intro id hid
 obtain ⟨b,hb⟩:=isSome_iff_exists.1 (h id hid)
 simp [mk,hb,e.obj id b hb]
theorem dX {g g':Gh}{w w':World}(e:Evo g w g' w'){D:List Nat}(h:∀id∈D,(g.obj id).isSome=true):∀id∈D,(g'.obj id).isSome=true:=by
 intro id hid
 obtain ⟨b,hb⟩:=isSome_iff_exists.1 (h id hid)
 rw [e.obj id b hb];rfl
theorem wl {g g':Gh}{w w':World}(e:Evo g w g' w'){rd r:Option Nat}(h:DK g rd r):DK g' rd r:=by
 cases rd with
 |none=>exact h
 |some id=>
  obtain ⟨h1,h2⟩:=h
  obtain ⟨b,hb⟩:=isSome_iff_exists.1 h1
  subst hb
  exact ⟨h1,e.obj id b h2⟩
theorem VCx.mono {G:aC}{ro:Nat}{f:FuncId}{xs:List TV}{T:VT}{Q Q':TV→VT→Prop}(h:VCx P G ro f xs T Q)(k:∀x T',Q x T'→Q' x T'):VCx P G ro f xs T Q':=
 λg w us r hG hx=>Calls.mono (h g w us r hG hx) λe w' ⟨v,x,g',T',h1,h2,h3⟩=>⟨v,x,g',T',h1,k _ _ h2,h3⟩
theorem VWx.mono {G:aC}{rd:Option Nat}{ro:Nat}{c:Code}{σ:List TV}{T:VT}{D:List Nat}{Q Q':KX}(h:VWx P G rd ro c σ T D Q)(k:∀e σ T D,Q e σ T D→Q' e σ T D):VWx P G rd ro c σ T D Q':=
 λr g w a rw0 hG hσ hd hD hr=>wpIn_mono (h r g w a rw0 hG hσ hd hD hr) λe a' w' ⟨g',σ',T',D',hq,h⟩=>⟨g',σ',T',D',k _ _ _ _ hq,h⟩
theorem VCx.of_pure {G:aC}{ro:Nat}{f:FuncId}{xs ys:List TV}{T:VT}{r:TV}(h:VCalls P f xs ⟨[],[]⟩ λx T'=>x=r∧T'=⟨[],[]⟩)(hx:ay (am []) (am []) ys=xs):
  VCx P G ro f ys T λx T'=>x=r.ren (aq T.objs.length []) (aq T.tails.length [])∧T'=T:=by
 intro g w us rw0 _ hxs
 have hargs:=hxs.ren (pM g T [] [])
 rw [hx] at hargs
 have hg:T.give [] []=⟨[],[]⟩:=VT.give_nil T
 have r1:=rw0.give (is:= []) (ks:= []) nodup_nil nodup_nil (by simp) (by simp)
 rw [hg] at r1
 refine Calls.mono (h _ w _ r1 hargs) ?_
 rintro e w' ⟨v,x,gc,T',rfl,⟨rfl,rfl⟩,e',r',hv⟩
 obtain ⟨g',ev,rb,rn⟩:=uq rw0 (is:= []) (ks:= []) nodup_nil nodup_nil (by simp) (by simp) e' r' (zero_le _) (zero_le _)
 have hb:T.back [] [] ⟨[],[]⟩=T:=by rw [VT.back_nil];cases T;simp
 rw [hb] at rb
 refine ⟨v,_,g',T,rfl,⟨rfl,rfl⟩,ev,rb,hv.ren rn,le_refl _,λ_ _ _=>rfl,λi o b _ ho hl hb=> ?_⟩
 exact e'.frb b (.inr (.inl ⟨i,o,ho,hl,by simp,hb⟩))
theorem VPx.call {G:aC}{ro:Nat}{o:Oper}{fo:Operand}{args:Array Operand}{ats:Array TypeId}{σ:List TV}{T:VT}{K:List TV→VT→Prop}{f:FuncId}{fn:Func}{fi ca:List TV}
  (ho:o.op=.call ⟨.value fo,args,ats⟩) (hf:aF G σ fo=.fn (.func f) fi ca) (hfn:P.funcs[f]?=some fn) (hb:fn.body.isSome=true) (hnm:(fn.name== "runtime.NumGoroutine")=false)
  (hc:VCx P G ro f (fi++args.toList.map (aF G σ)++ca) T λx T'=>K (aW σ o.dst x) T'):VPx P G ro o σ T K:=by
 intro g w a next Q' r hG hσ hn
 have h1:=dC hG hσ fo
 rw [hf] at h1
 obtain ⟨us,vs,h2,h3,h4⟩:=h1.fn_inv
 have hrun:=Dv ho h2 hfn hb hnm w
 have hargs:=(h3.app (gt (dC hG hσ) args.toList)).app h4
 unfold wp
 rw [hrun]
 refine mono (hc g w _ r hG hargs) ?_
 rintro e w' ⟨v,x,g',T',rfl,hq,e',r',hv,hx⟩
 exact hn _ _ g' w' _ ⟨_,rfl⟩ hq e' r' (eL (hσ.mono e') o.dst hv) (bP _ _ _) hx
theorem Gk {o:Oper}{fo:Operand}{args:Array Operand}{ats:Array TypeId}(ho:o.op=.call ⟨.value fo,args,ats⟩){ρ:Operand→Value}{b:Nat}(hf:ρ fo=.func (.yield b) #[] #[])(w:World):
  (execOp ρ o).run P w=(yield b (args.toList.map ρ).toArray).run P w:=by
 obtain ⟨dst,op,ty,pos,af,gd⟩:=o
 simp only at ho;subst ho
 simp [execOp,resolve,hf,Deferred.ofValue,invoke,tf]
theorem VPi.yld {G:aC}{ro:Nat}{o:Oper}{fo:Operand}{args:Array Operand}{ats:Array TypeId}{σ:List TV}{T:VT}{K:List TV→VT→Prop}{id:Nat}
  (ho:o.op=.call ⟨.value fo,args,ats⟩) (hf:aF G σ fo=.yld id) (hc:KG P G ro id (args.toList.map (aF G σ)) T λx T'=>K (aW σ o.dst x) T'):VPi P G ro o σ T K:=by
 intro r g w a next Q' rw0 hG hσ hn
 have h1:=dC hG hσ fo
 rw [hf] at h1
 obtain ⟨b,hb,hu⟩:=h1.yld_inv
 obtain ⟨b',fn,tmps,asg,body,hb',hrun,hround⟩:=hc g w _ rw0 hG (gt (dC hG hσ) args.toList)
 rw [hb] at hb';injection hb' with hb';subst hb'
 refine ⟨λ_ _=>trivial,?_⟩
 rw [Oper.semAt_eq _ _ _ (by rw [ho];intro c hc;cases hc),Gk ho hu,hrun]
 refine ⟨λh=>(by cases h),?_⟩
 refine RoundIn.mono (F:=bR r) (show RoundIn (bR r) 0 P b fn tmps asg body w _ from hround) ?_
 rintro e w' ⟨v,x,g',T',rfl,hq,e',r',hv,hx⟩
 exact hn _ _ g' w' _ ⟨_,rfl⟩ hq e' r' (eL (hσ.mono e') o.dst hv) (bP _ _ _) hx
end
end Go.Proofs.YtgboehkdijjnkaaGreatDoor