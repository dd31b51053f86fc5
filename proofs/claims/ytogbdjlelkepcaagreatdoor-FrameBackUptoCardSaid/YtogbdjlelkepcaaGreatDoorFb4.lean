/-Part 4 of the proof of frameBackUptoCard_holds:Mem,Block,ValB2 ... No condition. -/
import Derived.Laws.CopyOwn
import Derived.Laws.OwnMore
import Derived.Laws.MakeOwn
import Derived.Deep.AppendLies
import Derived.ProofKit
import Derived.OpenShut
import Derived.Lib.SmallJoins
import Derived.Test.YtogbdjlelkepcaaGreatDoorFb1
import Derived.Test.YtogbdjlelkepcaaGreatDoorFb2
import Derived.Test.YtogbdjlelkepcaaGreatDoorFb3
set_option maxRecDepth 100000
namespace Go.Proofs.YtogbdjlelkepcaaGreatDoor
open Go.RowKit
open Go.Addr (add)
open Go.BinOp (eql neq)
open _root_.BitVec (ofInt toNat)
open _root_.Bool (and_eq_true)
open Go.Calls (mono)
open _root_.Int (tdiv toNat_natCast)
open Go.IntKind (i64 signed u32 u64 wrap)
open _root_.List (drop getElem?_eq_getElem getElem?_map getElem?_set length length_append length_cons length_drop length_map length_nil length_take map_cons map_nil mem_cons mem_cons_of_mem mem_cons_self mem_singleton nil_append nodup_nil take_zero)
open _root_.Nat (beq ble le_of_ble_eq_true le_refl min_eq_left mul_one not_lt_zero zero_add zero_le)
open Go.Oper (wp)
open _root_.Option (getD_some map_eq_some_iff)
open Go.Result (andThen_ok)
open Go.Sem (run_bind run_pure)
open Go.Proofs.Tryz (prog underlying22)
open Go.World (cell? grownBy)
def Rd (w:World)(size:Nat)(v:Value)(n:Nat)(xs:List Value):Prop:=
 xs.length=n*size∧∃p c,v=.slice p n c∧n≤c∧c≤maxLen∧(p=none→n=0∧c=0)∧
  ∀ad,p=some ad→ad.spot=none∧∀j u,xs[j]?=some u→w.cell? ⟨ad.block,ad.off+j,none⟩=some u
theorem Rd.len {w:World}{size:Nat}{v:Value}{n:Nat}{xs:List Value}(h:Rd w size v n xs):xs.length=n*size:=h.1
theorem Rd.gr {w w':World}{size:Nat}{v:Value}{n:Nat}{xs:List Value}(g:Gr w w')(h:Rd w size v n xs):Rd w' size v n xs:=by
 obtain ⟨h1,p,c,hv,h2,h3,h4,h5⟩:=h
 exact ⟨h1,p,c,hv,h2,h3,h4,λad ha=>⟨(h5 ad ha).1,λj u hu=>g.cell ((h5 ad ha).2 j u hu)⟩⟩
theorem Rd.nil (w:World)(size:Nat):Rd w size (.slice none 0 0) 0 []:=
 ⟨by simp,none,0,rfl,le_refl _,zero_le _,λ_=>⟨rfl,rfl⟩,λad h=>by cases h⟩
theorem Rd.new (w:World)(xs:List Value)(t:TypeId)(size n:Nat)(hl:xs.length=n*size)(hm:n≤maxLen):Rd (w.alloc (.cells xs.toArray t)) size (.slice (some ⟨w.heap.size,0,none⟩) n n) n xs:=
 ⟨hl,_,n,rfl,le_refl _,hm,(λh=>by cases h),λad h=>by
  injection h with h
  subst h
  refine ⟨rfl,λj u hu=> ?_⟩
  have:=wQ w xs t j u hu
  simpa using this⟩
def Rets (w:World)(R:Value→World→Prop)(e:Ending)(w':World):Prop:=∃v,e=.returned v∧Gr w w'∧R v w'
theorem Rets.mk {w w':World}{R:Value→World→Prop}{v:Value}(g:Gr w w')(h:R v w'):Rets w R (.returned v) w':=⟨v,rfl,g,h⟩
theorem Dm {a w w':World}{base:Nat}{e:TypeId}{size:Nat}{v:Value}{n:Nat}{xs:List Value}(g:Gr a w)(hb:a.heap.size≤base)(h:w.ownsRow base e size v n xs)(k:w.grownBy w' v.ownBlock):Gr a w':=by
 unfold Gr at*
 exact g.grown k g.size (λj hj=>by have:=(h.lt j hj).1;omega)
def jx (l:List Nat):List Value:=l.map λx:Nat=>Value.int .u8 (x:Int)
theorem Nr (l:List Nat)(x:Nat):jx (l++ [x])=jx l++ [.int .u8 (x:Int)]:=by simp [jx]
section
variable {P:Program}{w:World}
theorem Rx {dst:Option Tmp}{ty:TypeId}{pos:String}{after:Array Edge}{gd:Option (Nat × Bool)}{a:Act}{K:Act→World→Prop}{Q:Exit→Act→World→Prop}{t:TypeId}{x y:Operand}(e:TypeId)(base:Nat)(i:TypeInfo)(z:Value)(size bytes:Nat)
  (ht:P.underlying t=some (.slice e)) (hi:P.info? e=some i) (hz:i.zero=some z) (hsize:i.size=size) (hby:i.bytes=bytes) (l c:Nat) (kl kc:IntKind) (lz cz:Int)
  (hx:a.eval x=.int kl lz) (hy:a.eval y=.int kc cz) (hlz:lz=(l:Int)) (hcz:cz=(c:Int)) (hlc:l≤c) (hbytes:bytes*c≤281474976710656) (h63:c≤maxLen) (hbase:base≤w.heap.size)
  (h:∀v' w',w'.ownsRow base e size v' l ((madeCells z.cells (c*size)).toList.take (l*size))→Gr w w'→(∃g,v'=.slice (some ⟨g,0,none⟩) l c)→K (a.put dst v') w'):wp P ⟨dst,.makeSlice t x y,ty,pos,after,gd⟩ a w K Q:=by
 subst hsize hby hlz hcz
 have hb':(i.bytes:Int)*(c:Int)≤281474976710656:=by
  have h:((i.bytes*c:Nat):Int)≤281474976710656:=by omega
  rwa [Int.natCast_mul] at h
 have hr:=run_make (P:=P) w t e i z ht hi hz kl kc l c (by omega) (by omega) hb' (by unfold maxLen at h63;omega)
 simp only [toNat_natCast] at hr
 unfold wp execOp
 simp only [hx,hy,run_bind,hr,andThen_ok,run_pure]
 refine h _ _ ⟨?_,.inr ⟨w.heap.size,c,_,rfl,hbase,heap_alloc_new w _,hlc,h63,size_madeCells _ _,rfl⟩⟩ ((Gr.refl w).alloc _) ⟨_,rfl⟩
 rw [length_take,Array.length_toList,size_madeCells]
 exact min_eq_left (Nat.mul_le_mul_right _ hlc)
theorem Uu {dst:Option Tmp}{ty:TypeId}{pos:String}{after:Array Edge}{gd:Option (Nat × Bool)}{a:Act}{K:Act→World→Prop}{Q:Exit→Act→World→Prop}{s x:Operand}{t:TypeId}
  (base:Nat) (e:TypeId) (i:TypeInfo) (z:Value) (size bytes:Nat) (ht:P.underlying t=some (.slice e)) (hi:P.info? e=some i) (hz:i.zero=some z)
  (hsize:i.size=size) (hby:i.bytes=bytes) (hzs:z.cells.size=size) (hsz:0<size)
  (v:Value) (n:Nat) (xs:List Value) (hs:a.eval s=v) (hown:w.ownsRow base e size v n xs)
  (y:Value) (m:Nat) (ys:List Value) (hx:a.eval x=y) (hy:Rd w size y m ys) (h1:∀u∈ys,u.oneCell'=true)
  (h63:n+m≤maxLen) (hbytes:(n+m)*bytes≤140737488355328) (hbase:base≤w.heap.size)
  (h:∀v' w',w'.ownsRow base e size v' (n+m) (xs++ys)→w.grownBy w' v.ownBlock→K (a.put dst v') w'):wp P ⟨dst,.call {callee:=.builtin .append,args:= #[s,x],argTypes:= #[t,t]},ty,pos,after,gd⟩ a w K Q:=by
 obtain ⟨hl,p,c,rfl,h2,h3,h4,h5⟩:=hy
 cases p with
 |some ad=>
  obtain ⟨hs5,hc5⟩:=h5 ad rfl
  have hadd:∀j,ad.add j=⟨ad.block,ad.off+j,none⟩:=by
   intro j
   obtain ⟨b,of,sp⟩:=ad
   simp only at hs5
   subst hs5
   unfold add;split<;>simp_all
  exact wp_append_own w s x t rfl base e i z size bytes ht hi hz hsize hby hzs hsz v n xs hs hown ad m c ys hx hl (λj u hu=>by rw [hadd];exact hc5 j u hu) h1 h63 hbytes hbase
   λv' w' a1 a2 _=>h v' w' a1 a2
 |none=>
  obtain ⟨rfl,rfl⟩:=h4 rfl
  have:ys= []:=List.eq_nil_of_length_eq_zero (by simpa using hl)
  subst this
  have hr:=run_append_owned_none (P:=P) w base t ty e i size ht hi v n xs hown
  unfold wp execOp
  simp only [resolve,invoke,builtin,run_bind,run_pure,andThen_ok,List.map_toArray,map_cons,map_nil,hs,hx,hr]
  exact h v w (by simpa using hown) (grownBy.refl _ _)
theorem Ry {dst:Option Tmp}{ty:TypeId}{pos:String}{after:Array Edge}{gd:Option (Nat × Bool)}{a:Act}{K:Act→World→Prop}{Q:Exit→Act→World→Prop}{d s:Operand}{dT sT:TypeId}
  (base:Nat) (e:TypeId) (hu:P.underlying dT=some (.slice e)) (hsz:(P.info? e).map (·.size)=some 1)
  (v:Value) (n:Nat) (xs:List Value) (hd:a.eval d=v) (hown:w.ownsRow base e 1 v n xs)
  (y:Value) (m:Nat) (ys:List Value) (hx:a.eval s=y) (hy:Rd w 1 y m ys) (h1:∀u∈ys,u.oneCell'=true)
  (h:∀w',w'.ownsRow base e 1 v n (ys.take n++xs.drop m)→w.grownBy w' v.ownBlock→K (a.put dst (goInt (Nat.min m n))) w'):wp P ⟨dst,.call {callee:=.builtin .copy,args:= #[d,s],argTypes:= #[dT,sT]},ty,pos,after,gd⟩ a w K Q:=by
 obtain ⟨hl,p,c,rfl,h2,h3,h4,h5⟩:=hy
 have hlx:=hown.1
 by_cases h0:Nat.min m n=0
 ·have hsame:ys.take n++xs.drop m=xs:=by
   rcases Nat.eq_zero_or_pos m with rfl | hm
   ·have:ys= []:=List.eq_nil_of_length_eq_zero (by simpa using hl)
    simp [this]
   ·have hn:n=0:=by
     by_cases hmn:m≤n
     ·have:Nat.min m n=m:=min_eq_left hmn
      omega
     ·have:Nat.min m n=n:=Nat.min_eq_right (by omega)
      omega
    subst hn
    have:xs= []:=List.eq_nil_of_length_eq_zero (by simpa using hlx)
    simp [this]
  obtain ⟨dp,dc,hv⟩:∃dp dc,v=.slice dp n dc:=by
   rcases hown.2 with ⟨rfl,rfl⟩ | ⟨g,cap,cur,rfl,_⟩
   ·exact ⟨_,_,rfl⟩
   ·exact ⟨_,_,rfl⟩
  have hrun:=run_copy_none (P:=P) w dT sT ty e dp p n dc m c hu hsz h0
  unfold wp
  rw [h0] at h
  simp [execOp,resolve,invoke,builtin,hd,hx,hv,hrun,Result.andThen]
  exact h w (by rw [hsame];exact hown) (grownBy.refl _ _)
 ·rcases hown.2 with ⟨rfl,rfl⟩ | ⟨g,cap,cur,rfl,hb,hg,hnc,hcm,hcs,htk⟩
  ·simp at h0
  ·cases p with
   |none=>obtain ⟨rfl,rfl⟩:=h4 rfl;simp at h0
   |some ad=>
    obtain ⟨hs5,hc5⟩:=h5 ad rfl
    have hadd:∀j,ad.add j=⟨ad.block,ad.off+j,none⟩:=by
     intro j
     obtain ⟨b,of,sp⟩:=ad
     simp only at hs5
     subst hs5
     unfold add;split<;>simp_all
    have hlen:(ys.take n).length=Nat.min m n:=by
     rw [length_take,hl,mul_one];exact Nat.min_comm n m
    have hle:(ys.take n).length≤n:=by rw [length_take];exact Nat.min_le_left _ _
    simp only [mul_one] at hcs htk hlx hl
    have hrun:=run_copy_row (P:=P) w dT sT ty e g 0 n cap ad m c cur e (ys.take n) hu hsz hg hlen
     (λj u hu=>by
      rw [List.getElem?_take] at hu
      split at hu
      ·rw [hadd];exact hc5 j u hu
      ·cases hu) (by omega) (λu hu=>h1 u (List.mem_of_mem_take hu))
    rw [hlen] at hrun
    unfold wp
    simp only [execOp,resolve,invoke,builtin,hd,hx,run_bind,run_pure,andThen_ok,List.map_toArray,map_cons,map_nil,hrun]
    refine h _ ⟨?_,.inr ⟨g,cap,_,rfl,hb,setRow_heap w g _ _ e _ hg,hnc,hcm,?_,?_⟩⟩ ⟨rfl,rfl,rfl,by simp [World.setRow],λk hk hne=>setRow_other w g k _ (λe=>hne (by rw [e];rfl))⟩
    ·rw [length_append,hlen,length_drop,hlx]
     have:Nat.min m n=if m≤n then m else n:=by
      split
      ·exact min_eq_left ‹_›
      ·exact Nat.min_eq_right (by omega)
     rw [this];split<;>omega
    ·simp only [take_zero,nil_append,List.size_toArray,length_append,length_drop,Array.length_toList,hlen]
     have:Nat.min m n≤n:=Nat.min_le_right _ _
     omega
    ·simp only [take_zero,nil_append,mul_one,zero_add]
     have hmn:Nat.min m n≤n:=Nat.min_le_right _ _
     rw [List.take_append,hlen,List.take_of_length_le (by omega)]
     congr 1
     have e1:(cur.toList.drop (Nat.min m n)).take (n-Nat.min m n)=xs.drop (Nat.min m n):=by
      rw [←htk,List.drop_take]
     rw [e1]
     by_cases hm:m≤n
     ·rw [show Nat.min m n=m from min_eq_left hm]
     ·rw [show Nat.min m n=n from Nat.min_eq_right (by omega),List.drop_eq_nil_of_le (by omega),List.drop_eq_nil_of_le (by omega)]
end
section
variable {P:Program}{w:World}{ops:Array Oper}{a:Act}{dst:Option Tmp}{ty:TypeId}{pos:String}{after:Array Edge}
theorem Ns {Q:Exit→Act→World→Prop}{rest:List Oper}{t:TypeId}{x y:Operand}(e:TypeId)(base:Nat)(i:TypeInfo)(z:Value)(size bytes:Nat)
  (ht:P.underlying t=some (.slice e)) (hi:P.info? e=some i) (hz:i.zero=some z) (hsize:i.size=size) (hby:i.bytes=bytes) (l c:Nat) (kl kc:IntKind) (lz cz:Int)
  (hx:a.eval x=.int kl lz) (hy:a.eval y=.int kc cz) (hlz:lz=(l:Int)) (hcz:cz=(c:Int)) (hlc:l≤c) (hbytes:bytes*c≤281474976710656) (h63:c≤maxLen) (hbase:base≤w.heap.size)
  (h:∀v' w',w'.ownsRow base e size v' l ((madeCells z.cells (c*size)).toList.take (l*size))→Gr w w'→(∃g,v'=.slice (some ⟨g,0,none⟩) l c)→wpList P ops Q rest (a.put dst v') w'):
  wpList P ops Q (⟨dst,.makeSlice t x y,ty,pos,after,none⟩::rest) a w:=
 wpList_plain rfl λ_ hK=>Rx e base i z size bytes ht hi hz hsize hby l c kl kc lz cz hx hy hlz hcz hlc hbytes h63 hbase λv' w' a1 a2 a3=>hK _ _ (h v' w' a1 a2 a3)
theorem Rz {Q:Exit→Act→World→Prop}{rest:List Oper}{s x:Operand}{t:TypeId}
  (base:Nat) (e:TypeId) (i:TypeInfo) (z:Value) (size bytes:Nat) (ht:P.underlying t=some (.slice e)) (hi:P.info? e=some i) (hz:i.zero=some z)
  (hsize:i.size=size) (hby:i.bytes=bytes) (hzs:z.cells.size=size) (hsz:0<size)
  (v:Value) (n:Nat) (xs:List Value) (hs:a.eval s=v) (hown:w.ownsRow base e size v n xs)
  (y:Value) (m:Nat) (ys:List Value) (hx:a.eval x=y) (hy:Rd w size y m ys) (h1:∀u∈ys,u.oneCell'=true)
  (h63:n+m≤maxLen) (hbytes:(n+m)*bytes≤140737488355328) (hbase:base≤w.heap.size)
  (h:∀v' w',w'.ownsRow base e size v' (n+m) (xs++ys)→w.grownBy w' v.ownBlock→wpList P ops Q rest (a.put dst v') w'):
  wpList P ops Q (⟨dst,.call {callee:=.builtin .append,args:= #[s,x],argTypes:= #[t,t]},ty,pos,after,none⟩::rest) a w:=
 wpList_plain rfl λ_ hK=>Uu base e i z size bytes ht hi hz hsize hby hzs hsz v n xs hs hown y m ys hx hy h1 h63 hbytes hbase λv' w' a1 a2=>hK _ _ (h v' w' a1 a2)
theorem Nt {Q:Exit→Act→World→Prop}{rest:List Oper}{d s:Operand}{dT sT:TypeId}
  (base:Nat) (e:TypeId) (hu:P.underlying dT=some (.slice e)) (hsz:(P.info? e).map (·.size)=some 1)
  (v:Value) (n:Nat) (xs:List Value) (hd:a.eval d=v) (hown:w.ownsRow base e 1 v n xs)
  (y:Value) (m:Nat) (ys:List Value) (hx:a.eval s=y) (hy:Rd w 1 y m ys) (h1:∀u∈ys,u.oneCell'=true)
  (h:∀w',w'.ownsRow base e 1 v n (ys.take n++xs.drop m)→w.grownBy w' v.ownBlock→wpList P ops Q rest (a.put dst (goInt (Nat.min m n))) w'):
  wpList P ops Q (⟨dst,.call {callee:=.builtin .copy,args:= #[d,s],argTypes:= #[dT,sT]},ty,pos,after,none⟩::rest) a w:=
 wpList_plain rfl λ_ hK=>Ry base e hu hsz v n xs hd hown y m ys hx hy h1 λw' a1 a2=>hK _ _ (h w' a1 a2)
end
section
variable {P:Program}
def RA:TV→Bool
 | .val _ | .ptr .. | .sl .. | .map _ | .dead=>true
 |_=>false
def sv (x:TV):TV:=if RA x then x else .dead
def Dn (size k e:Nat)(n:Nat)(es':List (List TV))(σ:List TV):List TV:=σ.map λx=>match x with
 | .vec s es (.tail k' e')=>if s=size∧k'=k∧e'=e∧es.length=n then .vec size es' .none else .dead
 |x=>sv x
theorem A3 {g:Gh}{w:World}:∀{xs:List TV} {us us':List Value},xs.map dD=us.map some→VRs g w xs us'→us'=us
 |[],[],us',_,k=>List.eq_nil_of_length_eq_zero k.1
 |[],_::_,_,h,_=>by simp at h
 |_::_,[],_,h,_=>by simp at h
 |x::xs,u::us,us',h,k=>by
  simp only [map_cons,List.cons.injEq] at h
  cases us' with
  |nil=>have:=k.1;simp at this
  |cons u' us'=>
   have h1:=dF h.1 (k.2 0 x u' rfl rfl)
   have h2:=A3 (us':=us') h.2 ⟨by have:=k.1;simpa using this,λj x u hx hu=>k.2 (j+1) x u (by simpa using hx) (by simpa using hu)⟩
   rw [h1,h2]
end
section
open Go.ChangeShapes Go.WideShapes Go.ChangeAt Go.RowKit Go.Joins Go.Deep
def mu (w:World):Gh:=⟨λ_=>none,λb o=>(w.cell? ⟨b,o,none⟩).isSome=true,λb=>b<w.heap.size,λ_=>none⟩
theorem Uv (w:World):RW (mu w) ⟨[],[]⟩ w:=by
 refine ⟨(λid o h=>by simp at h),(λi j oi oj b h=>by simp at h),(λ_ _=>rfl),(λ_ _ h=>h),(λ_ h=>h),(λk p h=>by simp at h),(λ_ _=>rfl),(λi j x y b h=>nomatch h),(λi oi b k x h=>by simp at h),(λk x h=>nomatch h),(λk x h=>nomatch h),(λk x h=>nomatch h)⟩
section
variable {H:Type}{enc:TypeId × Value→H}{P:Program}{w:World}{base:Nat}{spare:Nat→Bool}{held:Bool}
end
end
section
open Go.ChangeShapes Go.WideShapes Go.ChangeAt Go.RowKit Go.Joins Go.Deep
def mw (x:TV)(_:VT):Prop:=match x with
 | .val (.bool b)=>cond b True False
 |_=>False
theorem VCx.topK {P:Program}{G:aV}{ro:Nat}{f:FuncId}{xs:List TV}{us:List Value}(h:VCx P G ro f xs ⟨[],[]⟩ mw)(w:World)(hG:GOk G (mu w) w)(hx:VRs (mu w) w xs us):
  Calls P f us.toArray w λe w'=>e=.returned (.bool true)∧Gr w w':=by
 refine (h (mu w) w us (Uv w) hG hx).mono ?_
 rintro e w' ⟨u,x,g',T',rfl,hq,ev,_,hv,_⟩
 unfold mw at hq
 split at hq
 ·rename_i b
  cases b with
  |false=>exact hq.elim
  |true=>
   rw [hv.val_inv]
   exact ⟨rfl,ev.os,ev.tape,ev.output,ev.size,λb hb=>ev.frb b hb⟩
 ·exact hq.elim
theorem VCx.trueOnly {P:Program}{G:aV}{f:FuncId}{xs:List TV}(h:VCx P G 0 f xs ⟨[],[]⟩ mw):VCx P G 0 f xs ⟨[],[]⟩ λx T'=>x=.val (.bool true)∧T'=⟨[],[]⟩:=by
 refine VCx.keepQ 0 0 (le_refl _) (le_refl _) (h.mono λx T' hx=> ?_)
 unfold mw at hx
 split at hx
 ·rename_i b
  cases b with
  |false=>exact hx.elim
  |true=>exact ⟨rfl,by simp [VT.keep]⟩
 ·exact hx.elim
def oe:aW:=λ_ ys T K=>match ys with
 |[]=>K (.val (.bool true)) T
 |_::_=>False
theorem sw {P:Program}{G:aV}(hv:dt G){f:FuncId}(h:VCx P G 0 f [] ⟨[],[]⟩ mw):∀ro ys T K,oe ro ys T K→VCx P G ro f ys T K:=by
 intro ro ys T K hk
 unfold oe at hk
 split at hk
 ·exact VCx.liftPure hv h.trueOnly rfl (λ_ _=>rfl) hk
 ·exact hk.elim
section
variable {H:Type}{enc:TypeId × Value→H}{P:Program}{w:World}{base:Nat}{spare:Nat→Bool}{held:Bool}
def rp (P:Program)(f:TypeId→Option (List TypeId)):Nat→List Field→Option (List TypeId)
 |_,[]=>some []
 |off,fd::r=>match f fd.type with
  |some ls=>bif beq fd.offset off&&beq (P.cellsOf fd.type) ls.length then (rp P f (off+ls.length) r).map (ls++ ·) else none
  |none=>none
def rq (P:Program):Nat→TypeId→Option (List TypeId)
 | 0,_=>none
 |n+1,t=>match P.underlying t with
  |some (.struct fs)=>rp P (rq P n) 0 fs.toList
  |some (.array ..)=>none
  |_=>some [t]
theorem Nu {m ty:Nat}{u:Value}{y:DataW H × List MemPlace}{k:IntKind}(hk:P.underlying ty=some (.int k))(h:DataW.trod enc P w base spare held m ty [u]=some y):∃n,u=.int k n∧(Lit.int k n).wf=true:=by
 obtain ⟨n,e0,_,wn⟩:=DataW.trod_int hk h
 injection e0 with e0
 exact ⟨n,e0,wn⟩
end
end
section
variable {P:Program}{G:aV}
def yv:List Nat→List TV→Nat→Option TV
 |k::ks,v::vs,i=>bif beq k i then some v else yv ks vs i
 |_,_,_=>none
def ni (n:Nat)(keys:List Nat)(vs:List TV):List (Option TV):=(List.range n).map (yv keys vs)
def aQ (n:Nat)(keys:List Nat)(vs:List TV):List TV:=mW (ni n keys vs)
def pick (keys:List Nat)(σ:List TV):List TV:=keys.map λt=>σ.getD t .dead
theorem yw (σ:List TV):∀(keys:List Nat) (i:Nat) (x:TV),yv keys (pick keys σ) i=some x→x=σ.getD i .dead
 |[],_,_,h=>by simp [yv,pick] at h
 |k::ks,i,x,h=>by
  simp only [pick,map_cons,yv] at h
  cases hb:beq k i with
  |true=>
   rw [hb] at h
   have:=Nat.eq_of_beq_eq_true hb
   subst this
   injection h with h;exact h.symm
  |false=>rw [hb] at h;exact yw σ ks i x h
theorem Do:∀(σ:List TV) (m:List (Option TV)),m.length=σ.length→(∀(i:Nat) x,m[i]?=some (some x)→x=σ.getD i .dead)→LEs σ m
 |[],[],_,_=>trivial
 |[],_::_,h,_=>by simp at h
 |_::_,[],h,_=>by simp at h
 |x::l,none::m,h,k=>Do l m (by simpa using h) λi y hy=>by simpa using k (i+1) y (by simpa using hy)
 |x::l,some y::m,h,k=>⟨by simpa using (k 0 y rfl).symm,Do l m (by simpa using h) λi y hy=>by simpa using k (i+1) y (by simpa using hy)⟩
theorem my (σ:List TV)(keys:List Nat):LEs σ (ni σ.length keys (pick keys σ)):=by
 refine Do _ _ (by simp [ni]) λi x hx=> ?_
 simp only [ni,getElem?_map,map_eq_some_iff] at hx
 obtain ⟨j,hj,hx⟩:=hx
 have e:j=i:=by
  have:=(List.getElem?_eq_some_iff.1 hj).2
  simpa using this.symm
 subst e
 exact yw σ keys j x hx
theorem Nv (f h:Nat→Option Nat)(keys:List Nat)(σ:List TV):pick keys (ap f h σ)=ap f h (pick keys σ):=by
 simp only [pick,gw,List.map_map]
 refine List.map_congr_left λt _=> ?_
 simp only [Function.comp_apply,List.getD_eq_getElem?_getD,getElem?_map]
 cases σ[t]?<;>simp [TV.ren]
def cN (keys:List Nat)(Q:Exit→List TV→VT→List Nat→Nat→Prop):KX:=λe σ T D=>Q e (pick keys σ) T D σ.length
theorem VWx.forget {rd:Option Nat}{ro:Nat}{c:Code}{σ:List TV}{T:VT}{n:Nat}{keys:List Nat}{K:KX}{Q:Exit→List TV→VT→Prop}(h:VWx P G rd ro c σ T [] (cN keys λe vs T D m=>D= []∧m=n∧Q e vs T))
  (k:∀e vs T,Q e vs T→K e (aQ n keys vs) T []):VWx P G rd ro c σ T [] K:=by
 intro r g w a rw0 hG hσ hd hD hr
 refine wpIn_mono (h r g w a rw0 hG hσ hd hD hr) ?_
 rintro e a' w' ⟨g',σ',T',D',⟨rfl,rfl,hq⟩,e',r',hσ',h⟩
 exact ⟨g',_,T',[],k _ _ _ hq,e',r',(my σ' keys).ok hσ',h⟩
def Ia {ι:Type}(n id:Nat)(μ:ι→Nat)(sl:ι→List TV)(tt:ι→VT)(Inv:ι→Prop)(N M:Nat)(s:ι)(Post:Exit→List TV→VT→Prop):Exit→List TV→VT→List Nat→Nat→Prop:=λe vs T D m=>D= []∧m=n∧match e with
 | .normal=>∃s',Inv s'∧μ s' <μ s∧((T=tt s'∧vs=sl s')∨(T.keep N M=tt s'∧ap (aA N) (aA M) vs=sl s'))
 | .exit i=>cond (beq i id) (Post .normal vs T) (Post (.exit i) vs T)
 |e=>Post e vs T
theorem dO {ι:Type}{f:FuncId}{id:Nat}(hc:kp id (aD P f id)=true)(n:Nat)(keys:List Nat)(μ:ι→Nat)(sl:ι→List TV)(tt:ι→VT)(Inv:ι→Prop)(N M:Nat)(hN:∀s,Inv s→(tt s).objs.length≤N∧(tt s).tails.length≤M)(Post:Exit→List TV→VT→Prop)
  (hbody:∀s,Inv s→VWx P G none 0 (cq P f id) (aQ n keys (sl s)) (tt s) [] (cN keys (Ia n id μ sl tt Inv N M s Post))):
  ∀s,Inv s→∀K:KX,(∀e vs T,Post e vs T→K e (aQ n keys vs) T [])→VWx P G none 0 (aD P f id) (aQ n keys (sl s)) (tt s) [] K:=by
 intro s hs K hK
 refine VWx.forget (n:=n) (keys:=keys) (Q:=Post) ?_ hK
 refine VWx.blockS hc μ (λs=>ni n keys (sl s)) tt Inv N M hN (by simp) (λs hs=>(hbody s hs).mono λe σ T D hq=> ?_) s hs
 obtain ⟨rfl,hm,hq⟩:=hq
 cases e
 case normal=>
  refine ⟨rfl,?_⟩
  obtain ⟨s',h1,h2,h3⟩:=hq
  refine ⟨s',h1,h2,?_⟩
  rcases h3 with ⟨h3,h4⟩ | ⟨h3,h4⟩
  ·left;refine ⟨h3,?_⟩
   show LEs σ (ni n keys (sl s'))
   rw [←h4,←hm];exact my σ keys
  ·right;refine ⟨h3,?_⟩
   show LEs _ (ni n keys (sl s'))
   rw [←h4,←Nv,←hm]
   have:=my (ap (aA N) (aA M) σ) keys
   rwa [show (ap (aA N) (aA M) σ).length=σ.length by rw [gw];simp] at this
 case exit i=>
  simp only [sg,tP]
  simp only at hq
  cases hb:beq i id<;>rw [hb] at hq
  ·exact ⟨rfl,hm,hq⟩
  ·exact ⟨rfl,hm,hq⟩
 all_goals exact ⟨rfl,hm,hq⟩
theorem VWx.adopt {rd:Option Nat}{ro:Nat}{c:Code}{σ:List TV}{T:VT}{D:List Nat}{Q:KX}(d size:Nat)(hd:σ[d]?=some (.val (.slice none 0 0)))
  (h:VWx P G rd ro c (σ.set d (.vec size [] (.tail T.tails.length 0))) {T with tails:=T.tails++ [(0,size,true)]} D Q):VWx P G rd ro c σ T D Q:=by
 intro r g w a rw0 hG hσ hdf hDs hrd
 obtain ⟨g1,e1,r1,ht⟩:=rw0.newTail size true
 obtain ⟨u,hu,hv⟩:=hσ.at hd
 have hv':=hv.val_inv
 subst hv'
 have h2:=(hσ.mono e1).set d (x:=.vec size [] (.tail T.tails.length 0)) (u:=.slice none 0 0) (.nil ⟨_,ht,le_refl _,rfl⟩)
 have h3:a.tmps.toList.set d (.slice none 0 0)=a.tmps.toList:=by
  apply List.ext_getElem?
  intro j
  rw [getElem?_set]
  split
  ·rename_i hj;subst hj;rw [hu,if_pos (List.getElem?_eq_some_iff.1 hu).1]
  ·rfl
 rw [h3] at h2
 refine wpIn_mono (h r g1 w a r1 (hG.mono e1) h2 (hdf.trans (nd e1 hDs).symm) (gj e1 hDs) (CY e1 hrd)) ?_
 rintro e a' w' ⟨g',σ',T',D',hq,e2,r',hσ',hd',hD',hx⟩
 exact ⟨g',σ',T',D',hq,e1.trans e2,r',hσ',hd',hD',⟨hx.len,λi hi hl=>hx.same i hi hl,λi o b hi ho hl hb=>hx.heap i o b hi ho hl (e1.obj i b hb)⟩⟩
def fJ:List (Nat × Nat)→List TV→VT→List TV × VT
 |[],σ,T=>(σ,T)
 |p::l,σ,T=>fJ l (σ.set p.1 (.vec p.2 [] (.tail T.tails.length 0))) {T with tails:=T.tails++ [(0,p.2,true)]}
def vy:List (Nat × Nat)→List TV→Prop
 |[],_=>True
 |p::l,σ=>σ[p.1]?=some (.val (.slice none 0 0))∧vy l (σ.set p.1 .dead)
def dE (n:Nat)(keys:List Nat)(ad:List (Nat × Nat))(vs0:List TV)(T0:VT)(R:KX→Prop):bN:=λrd ro σ T D K=>(rd=none∧ro=0∧D= []∧vy ad σ∧(fJ ad σ T).2=T0∧beq σ.length n=true∧pick keys (fJ ad σ T).1=vs0)∧R K
theorem tX {rd:Option Nat}{ro:Nat}{c:Code}{D:List Nat}{Q:KX}:∀(ad:List (Nat × Nat)) (σ σ':List TV) (T:VT),vy ad σ'→(∀(i:Nat),σ'[i]?=some (.val (.slice none 0 0))→σ[i]?=some (.val (.slice none 0 0)))→σ.length=σ'.length→
  VWx P G rd ro c (fJ ad σ T).1 (fJ ad σ T).2 D Q→VWx P G rd ro c σ T D Q
 |[],_,_,_,_,_,_,h=>h
 |p::l,σ,σ',T,ho,hs,hl,h=>by
  obtain ⟨h1,h2⟩:=ho
  refine VWx.adopt p.1 p.2 (hs _ h1) (tX l _ (σ'.set p.1 .dead) _ h2 (λi hi=> ?_) (by simpa using hl) h)
  rw [getElem?_set] at hi ⊢
  split
  ·rename_i e;subst e;rw [if_pos rfl] at hi;split at hi<;>simp at hi
  ·rename_i e;rw [if_neg e] at hi;exact hs i hi
theorem o8:∀(ad:List (Nat × Nat)) (σ:List TV) (T:VT),(fJ ad σ T).1.length=σ.length
 |[],_,_=>rfl
 |p::l,σ,T=>by rw [fJ,o8 l];simp
theorem b9 {c:Code}{n:Nat}{keys:List Nat}{ad:List (Nat × Nat)}{vs0:List TV}{T0:VT}{R:KX→Prop}(h:∀K,R K→VWx P G none 0 c (aQ n keys vs0) T0 [] K):
  ∀rd ro σ T D K,dE n keys ad vs0 T0 R rd ro σ T D K→VWx P G rd ro c σ T D K:=by
 rintro rd ro σ T D K ⟨⟨rfl,rfl,rfl,ha,rfl,hn,rfl⟩,hR⟩
 obtain rfl:=Nat.eq_of_beq_eq_true hn
 refine tX ad σ σ T ha (λ_ h=>h) rfl ((h K hR).sub λg w us hu=> ?_)
 have:=(my (fJ ad σ T).1 keys).ok hu
 rwa [o8] at this
def ct:List (Nat × bN × Code)→Nat→Option (bN × Code)
 |[],_=>none
 | (i,W,c)::l,j=>bif beq i j then some (W,c) else ct l j
theorem bA:∀{l:List (Nat × bN × Code)},(∀p∈l,∀rd ro σ T D K,p.2.1 rd ro σ T D K→VWx P G rd ro p.2.2 σ T D K)→dd P G (ct l)
 |[],_=>λ_ _ _ h=>by cases h
 | (i,W,c)::l,h=>λj W' c' hW=>by
  simp only [ct] at hW
  cases hb:beq i j with
  |true=>
   rw [hb] at hW
   injection hW with hW;injection hW with h1 h2;subst h1 h2
   exact h _ mem_cons_self
  |false=>
   rw [hb] at hW
   exact bA (λp hp=>h p (mem_cons_of_mem _ hp)) j W' c' hW
def Kb (xs:List TV)(y:TV):aW:=λ_ ys T K=>ys=xs∧K y T
theorem Kc {f:FuncId}{xs:List TV}{y:TV}(hv:dt G)(hx:ap (aU []) (aU []) xs=xs)(hy:∀f h,y.ren f h=y)(h:VCx P G 0 f xs ⟨[],[]⟩ λx T'=>x=y∧T'=⟨[],[]⟩):
  ∀ro ys T K,Kb xs y ro ys T K→VCx P G ro f ys T K:=by
 rintro ro ys T K ⟨rfl,hk⟩
 exact VCx.liftPure hv h hx hy hk
theorem bF {C:FuncId→Option aW}(hm:P.follows .mixedOrders=true)(hB:jw P=true)(hC:bf P G C){F:jq}{n:Nat}{L:Nat→Option (bN × Code)}(hL:dd P G L){rd:Option Nat}{ro:Nat}{c:Code}{σ:List TV}{T:VT}{D:List Nat}{K:KX}{X:Prop}
 (h:vx P G C F n L rd ro c σ T D K=X) (hx:X):VWx P G rd ro c σ T D K:=vw hm hB hC n n (le_refl _) F L hL _ _ _ _ _ _ _ (by rw [h];exact hx)
theorem ak {C:FuncId→Option aW}(hm:P.follows .mixedOrders=true)(hB:jw P=true)(hC:bf P G C){F:jq}{n:Nat}{L:Nat→Option (bN × Code)}(hL:dd P G L){ro:Nat}{f:FuncId}{xs:List TV}{T:VT}{K:TV→VT→Prop}{X:Prop}
 (h:ar P G C F n L ro f xs T K=X) (hx:X):VCx P G ro f xs T K:=A1 hm hB hC hL (by rw [h];exact hx)
theorem Ib {t e:TypeId}{inf:TypeInfo}{es:List (List TV)}{tok:Tok}{k:IntKind}{z:Int}{cs:List TV}(ht:P.underlying t=some (.slice e))(hi:P.info? e=some inf)(h0:0≤z)(he:es[z.toNat]?=some cs):
  gi P t (.vec inf.size es tok) (.val (.int k z))=some (.elt cs):=by
 simp [gi,ht,hi,h0,he]
theorem dy {t e:TypeId}{x i:Operand}{l:List (Nat × TV)}{inf:TypeInfo}{es:List (List TV)}{tok:Tok}{k:IntKind}{z:Int}{cs:List TV}(ht:P.underlying t=some (.slice e))(hi:P.info? e=some inf)
  (hx:aP G l x=.vec inf.size es tok) (hz:aP G l i=.val (.int k z)) (h0:0≤z) (he:es[z.toNat]?=some cs):bc P G (.indexAddr t x i) l (.elt cs):=by
 refine ⟨?_⟩
 simp only [bu,hx,hz,oE,Ib ht hi h0 he]
end
section
variable {P:Program}{G:aV}
def cj:TV→TV
 | .vec s es _=>.vec s es .none
 |x=>x
theorem og {g:Gh}{w:World}{x:TV}{u:Value}(h:VR g w x u):VR g w (cj x) u:=by
 cases x with
 |vec s es t=>
  rcases h.vec_inv with ⟨rfl,rfl,h1⟩ | ⟨b,o,c,us,rfl,f1,f2,f3,f4,f5,f6,f7,f8⟩ | ⟨a,rfl,rfl,_⟩
  rotate_left 2
  ·exact .odd a trivial
  ·exact .nil trivial
  ·exact .mk_vec rfl f1 f2 f3 trivial f5 f6 f7 f8
 |_=>exact h
def mz:List Nat→List TV→List TV
 |[],σ=>σ
 |t::l,σ=>mz l (σ.set t (cj (σ.getD t .dead)))
theorem ww {g:Gh}{w:World}:∀(l:List Nat) {σ:List TV} {us:List Value},VRs g w σ us→VRs g w (mz l σ) us
 |[],_,_,h=>h
 |t::l,σ,us,h=>by
  refine ww l ⟨by simpa using h.1,λj x u hx hu=> ?_⟩
  rw [getElem?_set] at hx
  split at hx
  ·rename_i e;subst e
   split at hx
   ·rename_i hl
    injection hx with hx;subst hx
    refine og (h.2 t _ u ?_ hu)
    rw [List.getD_eq_getElem?_getD,getElem?_eq_getElem hl];rfl
   ·cases hx
  ·exact h.2 j x u hx hu
theorem tY:∀(l:List Nat) (σ:List TV),(mz l σ).length=σ.length
 |[],_=>rfl
 |t::l,σ=>by rw [mz,tY l];simp
def Ic (n:Nat)(keys:List Nat)(ad:List (Nat × Nat))(lo:List Nat)(vs0:List TV)(T0:VT)(R:KX→Prop):bN:=λrd ro σ T D K=>(rd=none∧ro=0∧D= []∧vy ad σ∧(fJ ad σ T).2=T0∧beq σ.length n=true∧pick keys (mz lo (fJ ad σ T).1)=vs0)∧R K
theorem Dp {c:Code}{n:Nat}{keys:List Nat}{ad:List (Nat × Nat)}{lo:List Nat}{vs0:List TV}{T0:VT}{R:KX→Prop}(h:∀K,R K→VWx P G none 0 c (aQ n keys vs0) T0 [] K):
  ∀rd ro σ T D K,Ic n keys ad lo vs0 T0 R rd ro σ T D K→VWx P G rd ro c σ T D K:=by
 rintro rd ro σ T D K ⟨⟨rfl,rfl,rfl,ha,rfl,hn,rfl⟩,hR⟩
 obtain rfl:=Nat.eq_of_beq_eq_true hn
 refine tX ad σ σ T ha (λ_ h=>h) rfl ((h K hR).sub λg w us hu=> ?_)
 have:=(my (mz lo (fJ ad σ T).1) keys).ok (ww lo hu)
 rwa [tY,o8] at this
theorem Dq {t e:TypeId}{x i:Operand}{l:List (Nat × TV)}{inf:TypeInfo}{es:List (List TV)}{tok:Tok}{k:IntKind}{z:Int}(ht:P.underlying t=some (.slice e))(hi:P.info? e=some inf)
  (hx:aP G l x=.vec inf.size es tok) (hz:aP G l i=.val (.int k z)) (h0:0≤z) (he:z.toNat≤es.length):bc P G (.slice t x none (some i) none) l (.vec inf.size (es.take z.toNat) .none):=by
 refine ⟨?_⟩
 simp [bu,hx,hz,jP,gS,qX,oN,ht,hi,fk,fj,h0,he]
theorem Dr {t e:TypeId}{x i:Operand}{l:List (Nat × TV)}{inf:TypeInfo}{es:List (List TV)}{tok:Tok}{k:IntKind}{z:Int}(ht:P.underlying t=some (.slice e))(hi:P.info? e=some inf)
  (hx:aP G l x=.vec inf.size es tok) (hz:aP G l i=.val (.int k z)) (h0:0≤z) (he:z.toNat≤es.length):bc P G (.slice t x (some i) none none) l (.vec inf.size (es.drop z.toNat) tok):=by
 refine ⟨?_⟩
 simp [bu,hx,hz,jP,gS,qX,oN,ht,hi,fk,fj,h0,he]
theorem eQ {ro:Nat}{T T1:VT}{t e tx:TypeId}{s x:Operand}{l:List (Nat × TV)}{inf:TypeInfo}{z:Value}{es es2:List (List TV)}{k n:Nat}{bn:Bool}(ht:P.underlying t=some (.slice e))(hi:P.info? e=some inf)(hz:inf.zero=some z)(hzs:z.cells.size=inf.size)(hp:0<inf.size)
  (hsl:fY (P.underlying tx)=true) (hs:cM T inf.size (aP G l s)=some (es,k,n,bn,T1)) (hx:fP inf.size (aP G l x)=some es2) (hb:(es.length+es2.length)*(inf.bytes+1)≤140737488355328):
  bb P G ro T (.call ⟨.builtin .append,#[s,x],#[t,tx]⟩) l (.vec inf.size (es++es2) (.tail k (n+es2.length))) {T1 with tails:=T1.tails.set k (n+es2.length,inf.size,bn)}:=by
 refine .old rfl ?_
 have h1:iQ P T t tx (aP G l s) (aP G l x)=some (.vec inf.size (es++es2) (.tail k (n+es2.length)),{T1 with tails:=T1.tails.set k (n+es2.length,inf.size,bn)}):=by
  simp [iQ,ht,hi,hz,hs,hx,hzs,hp,hsl,hb]
 simp [wb,dJ,jl,oP,h1]
end
section
variable {P:Program}{G:aV}
theorem VRs.loose {g:Gh}{w:World}{xs:List TV}{us:List Value}(h:VRs g w xs us):VRs g w (xs.map cj) us:=by
 refine ⟨by simpa using h.1,λj x u hx hu=> ?_⟩
 simp only [getElem?_map,map_eq_some_iff] at hx
 obtain ⟨y,hy,rfl⟩:=hx
 exact og (h.2 j y u hy hu)
theorem VCx.loose {ro:Nat}{f:FuncId}{xs:List TV}{T:VT}{Q:TV→VT→Prop}(h:VCx P G ro f (xs.map cj) T Q):VCx P G ro f xs T Q:=λg w us r hG hx=>h g w us r hG hx.loose
theorem VCx.loosePure {ro:Nat}{f:FuncId}{xs ys:List TV}{T:VT}{y:TV}{K:TV→VT→Prop}(hv:dt G)(h:VCx P G 0 f xs ⟨[],[]⟩ λx T'=>x=y∧T'=⟨[],[]⟩)(hy:ys.map cj=xs)(hx:ap (aU []) (aU []) xs=xs)(hr:∀f h,y.ren f h=y)(k:K y T):VCx P G ro f ys T K:=
 VCx.loose (VCx.liftPure hv h (by rw [hy];exact hx) hr k)
theorem VCx.looseAny {ro:Nat}{f:FuncId}{xs ys:List TV}{T:VT}{Y:TV→Prop}{K:TV→VT→Prop}(hv:dt G)(h:VCx P G 0 f xs ⟨[],[]⟩ λx T'=>Y x∧T'=⟨[],[]⟩)(hy:ys.map cj=xs)(hx:ap (aU []) (aU []) xs=xs)(hr:∀y,Y y→∀f h,y.ren f h=y)(k:∀y,Y y→K y T):VCx P G ro f ys T K:=by
 refine VCx.loose ((VCx.lift (xs:=xs) (T:=T) [] [] hv nodup_nil nodup_nil (by simp) (by simp) (by simp) (by rw [hy];exact hx) (by rw [VT.give_nil];exact h) (λ_ _ _=>⟨zero_le _,zero_le _⟩)).mono ?_)
 rintro z T' ⟨x,T'',⟨hY,rfl⟩,rfl,rfl⟩
 have hb:T.back [] [] ⟨[],[]⟩=T:=by rw [VT.back_nil];cases T;simp
 rw [hr x hY,hb];exact k x hY
theorem aO {b:Bool}{X Y:Prop}(h:b=false)(k:Y):cond b X Y:=by subst h;exact k
theorem aS {b:Bool}{X Y:Prop}(h:b=true)(k:X):cond b X Y:=by subst h;exact k
end
section
variable {P:Program}{G:aV}{g:Gh}{T:VT}{w:World}
theorem oh (r:RW g T w){id size off n:Nat}{es:List (List TV)}{u:Value}(h:bK T size (.row size id off n)=some es)(hx:VR g w (.row size id off n) u):
  ∃g',Evo g w g' w∧RW g' (T.kill id) w∧VR g' w (.vec size es .none) u:=by
 simp only [bK] at h
 split at h
 ·rename_i cs hid
  cases hb:(beq size size&&ble ((off+n)*size) cs.length) with
  |false=>rw [hb] at h;cases h
  |true=>
   rw [hb] at h;injection h with h;subst h
   simp only [and_eq_true] at hb
   have hle:=le_of_ble_eq_true hb.2
   obtain ⟨b,c,h1,h2,h3,h4,h5,rfl⟩:=hx.row_inv
   obtain ⟨b',q1,⟨us,t,q2,q3,q4,q5⟩,q6,q7⟩:=r.obj id _ hid rfl
   rw [h1] at q1;injection q1 with q1;subst q1
   rw [Nat.add_mul] at hle
   have hl:((cs.drop (off*size)).take (n*size)).length=n*size:=by simp;omega
   obtain ⟨k1,k2,k3⟩:=gz hl
   have hv:=(q4.drop (off*size)).take (n*size)
   have hl2:(((us.take cs.length).drop (off*size)).take (n*size)).length=n*size:=by simp;omega
   have hcell:∀(j:Nat) v,(((us.take cs.length).drop (off*size)).take (n*size))[j]?=some v→w.cell? ⟨b,off*size+j,none⟩=some v:=λj v hv=>by
    rw [cell?,q2]
    simp only [List.getElem?_take,List.getElem?_drop] at hv
    split at hv
    ·split at hv
     ·simpa using hv
     ·cases hv
    ·cases hv
   have fr:=rW r hid rfl h1
   have e:=Evo.addSt (g:=g) (w:=w) (S:=λo=>off*size≤o∧o<off*size+n*size) q6
   refine ⟨_,e,(r.kill hid rfl h1).addSt q6 fr.obj (λk x o hx _ hin=>fr.tl k x hx (.inl ⟨o,hin⟩)) (λo ho=> ?_),?_⟩
   ·have hj:o-off*size<(((us.take cs.length).drop (off*size)).take (n*size)).length:=by rw [hl2];omega
    have:=hcell (o-off*size) _ (getElem?_eq_getElem hj)
    rw [show off*size+(o-off*size)=o by omega] at this
    rw [this];rfl
   ·refine .mk_vec (us:=((us.take cs.length).drop (off*size)).take (n*size)) k1.symm h3 h4 k2 trivial (by rw [k3];exact hv.mono e) (λj hj=>.inr ⟨rfl,?_⟩) hcell (λu hu=>q5 u (List.mem_of_mem_drop (List.mem_of_mem_take hu)))
    rw [k3,hl] at hj
    omega
 ·cases h
def yx (x:TV)(T:VT):Option (Nat × List (List TV)):=match x with
 | .row size id off n=>(bK T size (.row size id off n)).map λes=>(size,es)
 |_=>none
theorem VCx.freezeRow {f:FuncId}{xs:List TV}{size:Nat}{es:List (List TV)}(hes:∀f h,bk f h es=es)(h:VCx P G 0 f xs ⟨[],[]⟩ λx T'=>yx x T'=some (size,es)):VCx P G 0 f xs ⟨[],[]⟩ λx T'=>x=.vec size es .none∧T'=⟨[],[]⟩:=by
 refine VCx.keepQ 0 0 (le_refl _) (le_refl _) ?_
 intro g w us rw0 hG hx
 refine Calls.mono (h g w us rw0 hG hx) ?_
 rintro e w' ⟨v,x,g',T',he,hq,e',r',hv,hfx⟩
 unfold yx at hq
 split at hq
 ·rename_i sz id off n
  simp only [map_eq_some_iff,Prod.mk.injEq] at hq
  obtain ⟨es',h1,rfl,rfl⟩:=hq
  obtain ⟨g2,e2,r2,v2⟩:=oh r' h1 hv
  exact ⟨v,_,g2,_,he,⟨by simp only [TV.ren,hes,Tok.ren],by simp [VT.keep]⟩,e'.trans e2,r2,v2,⟨by simp,λi hi=>absurd hi (not_lt_zero i),λi o b hi=>absurd hi (not_lt_zero i)⟩⟩
 ·cases hq
end
section
variable {P:Program}{G:aV}
def Ds (T:VT):List (Nat × TV × Option (VT→VT))→Nat→Option (TV × Option VT)
 |[],_=>none
 | (t,y,g)::l,s=>bif beq t s then some (y,match g with | some g=>some (g T) | none=>none) else Ds T l s
def aZ (l:List (Nat × TV × Option (VT→VT))):jq:=λo _ T=>match o.op with
 | .store _ (.tmp a) _=>Ds T l (500000+a)
 |_=>match o.dst with
  |some d=>Ds T l d
  |none=>none
theorem Dt {t e:TypeId}{x i:Operand}{l:List (Nat × TV)}{inf:TypeInfo}{id off n:Nat}{k:IntKind}{z:Int}(ht:P.underlying t=some (.slice e))(hi:P.info? e=some inf)
  (hx:aP G l x=.row inf.size id off n) (hz:aP G l i=.val (.int k z)) (h0:0≤z) (h1:z<n):bc P G (.indexAddr t x i) l (.ptr id (off*inf.size+z.toNat*inf.size)):=by
 refine ⟨?_⟩
 simp [bu,hx,hz,oE,ht,hi,h0,h1,Nat.beq_refl]
end
section
variable {P:Program}{G:aV}
theorem mA (size:Nat):∀{es:List (List TV)},(∀e∈es,e.length=size)→dG size es.length es.flatten=es
 |[],_=>rfl
 |e::es,h=>by
  have h1:e.length=size:=h e mem_cons_self
  have h2:=mA size (es:=es) λe he=>h e (mem_cons_of_mem _ he)
  simp only [length_cons,dG,List.flatten_cons]
  rw [List.take_left' h1,List.drop_left' h1,h2]
theorem jT {T:VT}{size id:Nat}{es:List (List TV)}(ho:T.objs[id]?=some (.row es.flatten))(hz:∀e∈es,e.length=size):bK T size (.row size id 0 es.length)=some es:=by
 have hl:=b7 hz
 have e1:((es.flatten.drop (0*size)).take (es.length*size))=es.flatten:=by
  rw [Nat.zero_mul,List.drop_zero,←hl,List.take_length]
 simp only [bK,ho]
 rw [e1,mA size hz,Nat.beq_refl,zero_add,hl,Nat.ble_eq_true_of_le (le_refl _)]
 rfl
theorem VCx.freeze {f:FuncId}{xs:List TV}{T:VT}{size:Nat}{es:List (List TV)}{Q:VT→Prop}(h:VCx P G 0 f xs T λx T'=>∃id off n,x=.row size id off n∧bK T' size (.row size id off n)=some es∧Q (T'.kill id)):
  VCx P G 0 f xs T λx T'=>x=.vec size es .none∧Q T':=by
 intro g w us rw0 hG hx
 refine Calls.mono (h g w us rw0 hG hx) ?_
 rintro e w' ⟨v,x,g',T',he,⟨id,off,n,rfl,h1,hq⟩,e',r',hv,hfx⟩
 obtain ⟨g2,e2,r2,v2⟩:=oh r' h1 hv
 refine ⟨v,_,g2,_,he,⟨rfl,hq⟩,e'.trans e2,r2,v2,⟨?_,λi hi=>absurd hi (not_lt_zero i),λi o b hi=>absurd hi (not_lt_zero i)⟩⟩
 have:=hfx.len
 simp only [VT.kill,List.length_set];exact this
end
section
variable {P:Program}{G:aV}{g:Gh}{T:VT}{w:World}
theorem RW.objLeAt (r:RW g T w){i:Nat}{o o':VO}(hi:T.objs[i]?=some o)(hl:o.live=true)(_hl':o'.live=true)(ho:∀b,g.obj i=some b→OR g w b o→OR g w b o'):RW g {T with objs:=T.objs.set i o' } w:=by
 have hil:i<T.objs.length:=(List.getElem?_eq_some_iff.1 hi).1
 have at':∀(j:Nat) oj,(T.objs.set i o')[j]?=some oj→oj.live=true→∃o2,T.objs[j]?=some o2∧o2.live=true∧∀b,g.obj j=some b→OR g w b o2→OR g w b oj:=λj oj h hlj=>by
  rw [getElem?_set] at h
  split at h
  ·rename_i hij;subst hij
   injection h with h;subst h
   exact ⟨o,hi,hl,ho⟩
  ·exact ⟨oj,h,hlj,λ_ _ h=>h⟩
 exact {
  obj:=λid oj h hlj=>by
   obtain ⟨o2,h1,h2,h3⟩:=at' id oj h hlj
   obtain ⟨b,h4,h5,h6⟩:=r.obj id o2 h1 h2
   exact ⟨b,h4,h3 b h4 h5,h6⟩
  inj:=λi j oi oj b hi li hj lj=>by
   obtain ⟨o2,h1,h2,_⟩:=at' i oi hi li
   obtain ⟨o3,h3,h4,_⟩:=at' j oj hj lj
   exact r.inj i j o2 o3 b h1 h2 h3 h4
  out:=λid h=>r.out id (by simpa using h)
  st:=r.st
  fr:=r.fr
  tl:=r.tl
  tout:=r.tout
  tinj:=r.tinj
  tobj:=λi oi b k x hi li=>by
   obtain ⟨o2,h1,h2,_⟩:=at' i oi hi li
   exact r.tobj i o2 b k x h1 h2
  own:=r.own
  own0:=r.own0
  tlo:=r.tlo}
theorem RW.objLe (r:RW g T w){i:Nat}{o o':VO}(hi:T.objs[i]?=some o)(hl:o.live=true)(hl':o'.live=true)(ho:∀b,OR g w b o→OR g w b o'):RW g {T with objs:=T.objs.set i o' } w:=r.objLeAt hi hl hl' λb _ h=>ho b h
end
section
variable {P:Program}{G:aV}
theorem VCx.at1 {f:FuncId}{ro k:Nat}{ys0 ys1:List TV}{o o1:VO}{T:VT}{K:TV→VT→Prop}{Q:TV→VO→List VO→Prop}(hG:dt G)(hro:ro≤k)(ho:T.objs[k]?=some o)(hl:o.live=true)(hren:o.ren (aU [k]) (aU [])=o1)(hy:ap (aU [k]) (aU []) ys0=ys1)
  (hv:VCx P G 0 f ys1 ⟨[o1],[]⟩ λx T'=>∃o' l',T'=⟨o'::l',[]⟩∧Q x o' l')
  (hk:∀x o' l',Q x o' l'→K (x.ren (ba T.objs.length [k]) (ba T.tails.length [])) ⟨T.objs.set k (o'.ren (ba T.objs.length [k]) (ba T.tails.length []))++l'.map (VO.ren (ba T.objs.length [k]) (ba T.tails.length [])),T.tails⟩):VCx P G ro f ys0 T K:=by
 have hg:T.give [k] []=⟨[o1],[]⟩:=by simp only [VT.give,map_cons,map_nil,ho,getD_some,hren]
 refine (VCx.lift (xs:=ys1) [k] [] hG (by simp) nodup_nil (λj hj=> ?_) (by simp) (λi hi=> ?_) hy (by rw [hg];exact hv) (λx T' hq=> ?_)).mono ?_
 ·obtain rfl:=mem_singleton.1 hj;exact ⟨_,ho,hl⟩
 ·obtain rfl:=mem_singleton.1 hi;exact hro
 ·obtain ⟨o',l',rfl,_⟩:=hq;exact ⟨by simp,zero_le _⟩
 ·rintro x T' ⟨y,T2,⟨o',l',rfl,hq⟩,rfl,rfl⟩
  simpa [VT.back,cn] using hk y o' l' hq
end
abbrev Bs:=List (List TV)
def bT (z:Int):List TV:= [.val (.int .u8 z)]
def bV (l:List Int):Bs:=l.map bT
def IsB (b:Bs):Prop:=(∃l:List Int,b=bV l∧∀z∈l,0≤z∧z<256)∧b.length≤32000000
def fZ:List TV→Int
 |[.val (.int _ z)]=>z
 |_=>0
theorem IsB.take {b:Bs}(h:IsB b)(n:Nat):IsB (b.take n):=by
 obtain ⟨⟨l,rfl,hl⟩,h2⟩:=h
 exact ⟨⟨l.take n,by simp [bV,List.map_take],λz hz=>hl z (List.mem_of_mem_take hz)⟩,by rw [length_take];omega⟩
theorem IsB.drop {b:Bs}(h:IsB b)(n:Nat):IsB (b.drop n):=by
 obtain ⟨⟨l,rfl,hl⟩,h2⟩:=h
 exact ⟨⟨l.drop n,by simp [bV,List.map_drop],λz hz=>hl z (List.mem_of_mem_drop hz)⟩,by rw [length_drop];omega⟩
theorem IsB.nil:IsB []:=⟨⟨[],rfl,λ_ h=>by simp at h⟩,zero_le _⟩
theorem o9 (f g:Nat→Option Nat):∀l:List Int,bk f g (bV l)=bV l
 |[]=>rfl
 |a::l=>by simp only [bV,map_cons,bk];rw [show bk f g (l.map bT)=l.map bT from o9 f g l];rfl
theorem IsB.ren {b:Bs}(h:IsB b)(f g:Nat→Option Nat):bk f g b=b:=by
 obtain ⟨⟨l,rfl,_⟩,_⟩:=h
 exact o9 f g l
theorem IsB.at {b:Bs}(h:IsB b){j:Nat}{r:List TV}(hr:b[j]?=some r):∃z:Int,r=bT z∧0≤z∧z<256:=by
 obtain ⟨⟨l,rfl,hl⟩,_⟩:=h
 simp only [bV,getElem?_map,map_eq_some_iff] at hr
 obtain ⟨z,hz,rfl⟩:=hr
 exact ⟨z,rfl,hl z (List.mem_of_getElem? hz)⟩
theorem IsB.small {b:Bs}(h:IsB b):b.length≤32000000:=h.2
theorem IsB.len1 {b:Bs}(h:IsB b):∀e∈b,e.length=1:=λe he=>by
 obtain ⟨j,hj,rfl⟩:=List.getElem_of_mem he
 obtain ⟨z,hz,_⟩:=h.at (getElem?_eq_getElem hj)
 rw [hz];rfl
def cR (n:Int)(b:Bs)(e:Int):Bool:=decide (e=0)&&decide (0≤n)&&decide (n≤b.length)
def cm (n:Int)(b:Bs)(e:Int):Bs:=bif cR n b e then b.take n.toNat else []
def aG (n:Int)(b:Bs)(e:Int):Bs:=bif cR n b e then b.drop n.toNat else b
def aH (n:Int)(b:Bs)(e:Int):Int:=bif decide (e=0) then (bif decide (n<0) then 2 else bif decide (n≤b.length) then 0 else 3) else e
def bC (n:Int)(b:Bs)(e a:Int):Int:=bif cR n b e then i64.wrap (a+n) else a
def fw (b:Bs):Int:=b.foldl (λn r=>n*256+fZ r) 0
def aR (k:Nat)(b:Bs)(e:Int):Int:=bif cR k b e then fw (b.take k) else 0
theorem iI {n:Int}{b:Bs}{e:Int}(h:IsB b):IsB (cm n b e):=by
 unfold cm;cases cR n b e
 ·exact .nil
 ·exact h.take _
theorem aK {n:Int}{b:Bs}{e:Int}(h:IsB b):IsB (aG n b e):=by
 unfold aG;cases cR n b e
 ·exact h
 ·exact h.drop _
theorem RB:∀(b:Bs) (r:List TV),fw (b++ [r])=fw b*256+fZ r:=λb r=>by simp [fw,List.foldl_append]
theorem Ga:∀(l:List Int) (n:Int),(∀z∈l,0≤z∧z<256)→0≤n→0≤(bV l).foldl (λn r=>n*256+fZ r) n∧(bV l).foldl (λn r=>n*256+fZ r) n<(n+1)*256^l.length
 |[],n,_,h=>by simp only [bV,map_nil,List.foldl_nil,length_nil,Int.pow_zero];omega
 |z::l,n,hz,h=>by
  obtain ⟨h1,h2⟩:=hz z mem_cons_self
  have e:fZ (bT z)=z:=rfl
  obtain ⟨h3,h4⟩:=Ga l (n*256+z) (λx hx=>hz x (mem_cons_of_mem _ hx)) (by omega)
  simp only [bV,map_cons,List.foldl_cons,e,length_cons] at h3 h4 ⊢
  refine ⟨h3,Int.lt_of_lt_of_le h4 ?_⟩
  have hp:(0:Int)≤256^l.length:=Int.pow_nonneg (by decide)
  have:=Int.mul_le_mul_of_nonneg_right (show n*256+z+1≤(n+1)*256 by omega) hp
  rw [Int.pow_succ,Int.mul_comm (256^l.length) 256,←Int.mul_assoc]
  exact this
theorem tZ {l:List Int}(h:∀z∈l,0≤z∧z<256):0≤fw (bV l)∧fw (bV l)<256^l.length:=by
 have:=Ga l 0 h (Int.le_refl _)
 simpa [fw] using this
def wx (n:Int):Prop:=0≤n∧n≤8
def wy (n:Int)(b:Bs):Prop:=n≤b.length
def de (n:Int)(b:Bs):Int:=fw (b.take n.toNat)
def nQ (n:Int)(b:Bs)(e:Int):Int:=bif cR n b e then de n b else 0
theorem Du (k:Nat)(b:Bs)(e:Int):aR k b e=nQ k b e:=by simp only [aR,nQ,de,toNat_natCast]
theorem vz {n:Int}{b:Bs}{e:Int}:((cm n b e).length:Int)=bif cR n b e then n else 0:=by
 unfold cm
 cases h:cR n b e
 ·rfl
 ·simp only [cR,and_eq_true,decide_eq_true_eq] at h
  simp only [cond_true,length_take];omega
theorem Uw {n:Int}{b:Bs}{e:Int}(h0:0≤n)(h:n≤(cm n b e).length):de n (cm n b e)=nQ n b e:=by
 unfold nQ
 rw [vz] at h
 cases hc:cR n b e
 ·rw [hc] at h
  obtain rfl:n=0:=by simp only [cond_false] at h;omega
  rfl
 ·simp only [de,cm,hc,cond_true,List.take_take,Nat.min_self]
theorem Ux {n:Int}{b:Bs}{e:Int}(h:((cm n b e).length:Int)<n):nQ n b e=0:=by
 unfold nQ
 rw [vz] at h
 cases hc:cR n b e
 ·rfl
 ·rw [hc] at h;simp only [cond_true] at h;omega
theorem Dv {n:Nat}{b:Bs}(h:IsB b)(e:Int):0≤nQ n b e∧nQ n b e<256^n:=by
 have hp:(0:Int)<256^n:=Int.pow_pos (by decide)
 unfold nQ
 cases hc:cR n b e
 ·exact ⟨Int.le_refl _,hp⟩
 ·obtain ⟨⟨l,hl,hz⟩,_⟩:=h.take n
  simp only [cond_true,de,toNat_natCast]
  have hlen:l.length=n:=by
   have:=congrArg length hl
   simp only [cR,and_eq_true,decide_eq_true_eq] at hc
   simp only [bV,length_map,length_take] at this
   omega
  rw [hl]
  have:=tZ hz
  rwa [hlen] at this
theorem cH {n z:Int}(h0:0≤n)(hn:n<72057594037927936)(hz:0≤z)(hz2:z<256):wrap .u64 ((toNat (ofInt (IntKind.bits .u64) (wrap .u64 (n*(2:Int)^min (Int.toNat (8:Int)) (IntKind.bits .u64))) ||| ofInt (IntKind.bits .u64) (wrap .u64 z)):Nat):Int)=n*256+z:=by
 obtain ⟨a,rfl⟩:=Int.eq_ofNat_of_zero_le h0
 obtain ⟨c,rfl⟩:=Int.eq_ofNat_of_zero_le hz
 have e1:wrap .u64 ((a:Int)*(2:Int)^min (Int.toNat (8:Int)) (IntKind.bits .u64))=((a*256:Nat):Int):=by
  simp only [wrap,IntKind.bits,signed];simp;omega
 have e2:wrap .u64 (c:Int)=(c:Int):=by simp only [wrap,IntKind.bits,signed];simp;omega
 rw [e1,e2]
 have e3:(ofInt (IntKind.bits .u64) ((a*256:Nat):Int) ||| ofInt (IntKind.bits .u64) (c:Int)).toNat=a*256+c:=by
  rw [BitVec.toNat_or]
  simp only [IntKind.bits,BitVec.ofInt_natCast,BitVec.toNat_ofNat]
  rw [Nat.mod_eq_of_lt (by omega),Nat.mod_eq_of_lt (by omega),show a*256=2^8*a by omega,Nat.two_pow_add_eq_or_of_lt (by omega:c<2^8)]
 rw [e3]
 simp only [wrap,IntKind.bits,signed];simp;omega
theorem VCx.asVec {P:Program}{G:aV}{f:FuncId}{xs:List TV}{T:VT}{size:Nat}{es:List (List TV)}{Q:VT→Prop}(h:VCx P G 0 f xs T λx T'=>((x=.val (.slice none 0 0)∧es= [])∨∃tok,x=.vec size es tok)∧Q T'):VCx P G 0 f xs T λx T'=>x=.vec size es .none∧Q T':=by
 intro g w us rw0 hG hx
 refine Calls.mono (h g w us rw0 hG hx) ?_
 rintro e w' ⟨v,x,g',T',he,⟨hq,hQ⟩,e',r',hv,hfx⟩
 refine ⟨v,_,g',T',he,⟨rfl,hQ⟩,e',r',?_,hfx⟩
 rcases hq with ⟨rfl,rfl⟩ | ⟨tok,rfl⟩
 ·obtain rfl:=hv.val_inv
  exact .nil trivial
 ·exact og hv
def aM (b:Bs)(a e:Int):VO:=.cells [.val (.bool true),.vec 1 b .none,.val (.int .i64 a),.val (.int .i64 e)]
theorem bH {b:Bs}(h:IsB b)(a e:Int)(f g:Nat→Option Nat):(aM b a e).ren f g=aM b a e:=by
 simp only [aM,VO.ren,ap,TV.ren,h.ren,Tok.ren]
def ma (kind:IntKind)(n:Nat):aW:=λro ys T K=>match ys with
 |[.ptr k 0]=>match T.objs[k]? with
  |some (.cells [.val (.bool true),.vec 1 b .none,.val (.int .i64 a),.val (.int .i64 e)])=>(ble ro k=true∧IsB b)∧K (.val (.int kind (aR n b e))) {T with objs:=T.objs.set k (aM (aG n b e) (bC n b e a) (aH n b e))}
  |_=>False
 |_=>False
section
variable {P:Program}{G:aV}
theorem Uy (hG:dt G){f:FuncId}{kind:IntKind}{n:Nat}(h:∀b a e,IsB b→VCx P G 0 f [.ptr 0 0] ⟨[aM b a e],[]⟩ λx T'=>x=.val (.int kind (aR n b e))∧T'=⟨[aM (aG n b e) (bC n b e a) (aH n b e)],[]⟩):
  ∀ro ys T K,ma kind n ro ys T K→VCx P G ro f ys T K:=by
 intro ro ys T K hw
 unfold ma at hw
 split at hw
 ·rename_i k
  split at hw
  ·rename_i b a e ho
   obtain ⟨⟨hro,hb⟩,hk⟩:=hw
   refine VCx.at1 (Q:=λx o' l'=>x=.val (.int kind (aR n b e))∧o'=aM (aG n b e) (bC n b e a) (aH n b e)∧l'= []) hG (le_of_ble_eq_true hro) ho rfl (bH hb a e _ _) (ys1:= [.ptr 0 0]) (by simp [ap,TV.ren,aU]) ((h b a e hb).mono λx T' ⟨h1,h2⟩=>⟨_,_,h2,h1,rfl,rfl⟩) ?_
   rintro x o' l' ⟨rfl,rfl,rfl⟩
   rw [bH (aK hb)]
   simpa [TV.ren] using hk
  ·exact hw.elim
 ·exact hw.elim
end
--bumped 32
def bw (b:Bs)(e:Int):Int:=bif decide (e=0) then (b.length:Int) else 0
def Dw:aW:=λro ys T K=>match ys with
 |[.ptr k 0,.val (.int .i64 n)]=>match T.objs[k]? with
  |some (.cells [.val (.bool true),.vec 1 b .none,.val (.int .i64 a),.val (.int .i64 e)])=>(ble ro k=true∧IsB b)∧K (.vec 1 (cm n b e) .none) {T with objs:=T.objs.set k (aM (aG n b e) (bC n b e a) (aH n b e))}
  |_=>False
 |_=>False
def nR:aW:=λro ys T K=>match ys with
 |[.ptr k 0]=>match T.objs[k]? with
  |some (.cells [.val (.bool true),.vec 1 b .none,.val (.int .i64 a),.val (.int .i64 e)])=>(ble ro k=true∧IsB b)∧K (.val (.int .i64 (bw b e))) T
  |_=>False
 |_=>False
def mc:aW:=λro ys T K=>match ys with
 |[.ptr k 0]=>match T.objs[k]? with
  |some (.cells [.val (.bool true),.vec 1 b .none,.val (.int .i64 a),.val (.int .i64 e)])=>(ble ro k=true∧IsB b)∧K (.val (.int .i64 e)) T
  |_=>False
 |_=>False
def yy:aW:=λro ys T K=>match ys with
 |[.ptr k 0,.val (.int .i64 n)]=>match T.objs[k]? with
  |some (.cells [.val (.bool true),.vec 1 b .none,.val (.int .i64 a),.val (.int .i64 e)])=>(ble ro k=true∧IsB b)∧K (.ptr T.objs.length 0) {T with objs:=T.objs.set k (aM (aG n b e) (bC n b e a) (aH n b e))++ [aM (cm n b e) 0 0]}
  |_=>False
 |_=>False
def t5:aW:=λro ys T K=>match ys with
 |[.ptr k 0]=>match T.objs[k]? with
  |some (.cells [.val (.bool true),.vec 1 b .none,.val (.int .i64 a),.val (.int .i64 e)])=>(ble ro k=true∧IsB b)∧K (.vec 1 (cm (bw b e) b e) .none) {T with objs:=T.objs.set k (aM (aG (bw b e) b e) (bC (bw b e) b e a) (aH (bw b e) b e))}
  |_=>False
 |_=>False
def nj:aW:=λ_ ys T K=>match ys with
 |[.vec 1 b _]=>IsB b∧K (.ptr T.objs.length 0) {T with objs:=T.objs++ [aM b 0 0]}
 |_=>False
section
variable {P:Program}{G:aV}
theorem pc {T:VT}{k:Nat}{o:VO}(h:T.objs[k]?=some o):T.objs.set k o=T.objs:=by
 apply List.ext_getElem?
 intro j
 rw [getElem?_set]
 split
 ·rename_i e;subst e
  rw [if_pos (List.getElem?_eq_some_iff.1 h).1,h]
 ·rfl
theorem Kd (hG:dt G){f:FuncId}(h:∀b a e n,IsB b→VCx P G 0 f [.ptr 0 0,.val (.int .i64 n)] ⟨[aM b a e],[]⟩ λx T'=>x=.vec 1 (cm n b e) .none∧T'=⟨[aM (aG n b e) (bC n b e a) (aH n b e)],[]⟩):
  ∀ro ys T K,Dw ro ys T K→VCx P G ro f ys T K:=by
 intro ro ys T K hw
 unfold Dw at hw
 split at hw
 ·rename_i k n
  split at hw
  ·rename_i b a e ho
   obtain ⟨⟨hro,hb⟩,hk⟩:=hw
   refine VCx.at1 (Q:=λx o' l'=>x=.vec 1 (cm n b e) .none∧o'=aM (aG n b e) (bC n b e a) (aH n b e)∧l'= []) hG (le_of_ble_eq_true hro) ho rfl (bH hb a e _ _) (ys1:= [.ptr 0 0,.val (.int .i64 n)]) (by simp [ap,TV.ren,aU]) ((h b a e n hb).mono λx T' ⟨h1,h2⟩=>⟨_,_,h2,h1,rfl,rfl⟩) ?_
   rintro x o' l' ⟨rfl,rfl,rfl⟩
   rw [bH (aK hb)]
   simpa [TV.ren,(iI hb).ren,Tok.ren] using hk
  ·exact hw.elim
 ·exact hw.elim
theorem Uz (hG:dt G){f:FuncId}(h:∀b a e,IsB b→VCx P G 0 f [.ptr 0 0] ⟨[aM b a e],[]⟩ λx T'=>x=.val (.int .i64 (bw b e))∧T'=⟨[aM b a e],[]⟩):
  ∀ro ys T K,nR ro ys T K→VCx P G ro f ys T K:=by
 intro ro ys T K hw
 unfold nR at hw
 split at hw
 ·rename_i k
  split at hw
  ·rename_i b a e ho
   obtain ⟨⟨hro,hb⟩,hk⟩:=hw
   refine VCx.at1 (Q:=λx o' l'=>x=.val (.int .i64 (bw b e))∧o'=aM b a e∧l'= []) hG (le_of_ble_eq_true hro) ho rfl (bH hb a e _ _) (ys1:= [.ptr 0 0]) (by simp [ap,TV.ren,aU]) ((h b a e hb).mono λx T' ⟨h1,h2⟩=>⟨_,_,h2,h1,rfl,rfl⟩) ?_
   rintro x o' l' ⟨rfl,rfl,rfl⟩
   rw [bH hb,show T.objs.set k (aM b a e)=T.objs from pc ho]
   simpa [TV.ren] using hk
  ·exact hw.elim
 ·exact hw.elim
theorem UA (hG:dt G){f:FuncId}(h:∀b a e,IsB b→VCx P G 0 f [.ptr 0 0] ⟨[aM b a e],[]⟩ λx T'=>x=.val (.int .i64 e)∧T'=⟨[aM b a e],[]⟩):
  ∀ro ys T K,mc ro ys T K→VCx P G ro f ys T K:=by
 intro ro ys T K hw
 unfold mc at hw
 split at hw
 ·rename_i k
  split at hw
  ·rename_i b a e ho
   obtain ⟨⟨hro,hb⟩,hk⟩:=hw
   refine VCx.at1 (Q:=λx o' l'=>x=.val (.int .i64 e)∧o'=aM b a e∧l'= []) hG (le_of_ble_eq_true hro) ho rfl (bH hb a e _ _) (ys1:= [.ptr 0 0]) (by simp [ap,TV.ren,aU]) ((h b a e hb).mono λx T' ⟨h1,h2⟩=>⟨_,_,h2,h1,rfl,rfl⟩) ?_
   rintro x o' l' ⟨rfl,rfl,rfl⟩
   rw [bH hb,show T.objs.set k (aM b a e)=T.objs from pc ho]
   simpa [TV.ren] using hk
  ·exact hw.elim
 ·exact hw.elim
theorem Nw (hG:dt G){f:FuncId}(h:∀b a e n,IsB b→VCx P G 0 f [.ptr 0 0,.val (.int .i64 n)] ⟨[aM b a e],[]⟩ λx T'=>x=.ptr 1 0∧T'=⟨[aM (aG n b e) (bC n b e a) (aH n b e),aM (cm n b e) 0 0],[]⟩):
  ∀ro ys T K,yy ro ys T K→VCx P G ro f ys T K:=by
 intro ro ys T K hw
 unfold yy at hw
 split at hw
 ·rename_i k n
  split at hw
  ·rename_i b a e ho
   obtain ⟨⟨hro,hb⟩,hk⟩:=hw
   refine VCx.at1 (Q:=λx o' l'=>x=.ptr 1 0∧o'=aM (aG n b e) (bC n b e a) (aH n b e)∧l'= [aM (cm n b e) 0 0]) hG (le_of_ble_eq_true hro) ho rfl (bH hb a e _ _) (ys1:= [.ptr 0 0,.val (.int .i64 n)]) (by simp [ap,TV.ren,aU]) ((h b a e n hb).mono λx T' ⟨h1,h2⟩=>⟨_,_,h2,h1,rfl,rfl⟩) ?_
   rintro x o' l' ⟨rfl,rfl,rfl⟩
   rw [bH (aK hb)]
   simp only [map_cons,map_nil,bH (iI hb)]
   simpa [TV.ren,ba] using hk
  ·exact hw.elim
 ·exact hw.elim
theorem Ke (hG:dt G){f:FuncId}(h:∀b a e,IsB b→VCx P G 0 f [.ptr 0 0] ⟨[aM b a e],[]⟩ λx T'=>x=.vec 1 (cm (bw b e) b e) .none∧T'=⟨[aM (aG (bw b e) b e) (bC (bw b e) b e a) (aH (bw b e) b e)],[]⟩):
  ∀ro ys T K,t5 ro ys T K→VCx P G ro f ys T K:=by
 intro ro ys T K hw
 unfold t5 at hw
 split at hw
 ·rename_i k
  split at hw
  ·rename_i b a e ho
   obtain ⟨⟨hro,hb⟩,hk⟩:=hw
   refine VCx.at1 (Q:=λx o' l'=>x=.vec 1 (cm (bw b e) b e) .none∧o'=aM (aG (bw b e) b e) (bC (bw b e) b e a) (aH (bw b e) b e)∧l'= []) hG (le_of_ble_eq_true hro) ho rfl (bH hb a e _ _) (ys1:= [.ptr 0 0]) (by simp [ap,TV.ren,aU]) ((h b a e hb).mono λx T' ⟨h1,h2⟩=>⟨_,_,h2,h1,rfl,rfl⟩) ?_
   rintro x o' l' ⟨rfl,rfl,rfl⟩
   rw [bH (aK hb)]
   simpa [TV.ren,(iI hb).ren,Tok.ren] using hk
  ·exact hw.elim
 ·exact hw.elim
theorem Kf (hG:dt G){f:FuncId}(h:∀b,IsB b→VCx P G 0 f [.vec 1 b .none] ⟨[],[]⟩ λx T'=>x=.ptr 0 0∧T'=⟨[aM b 0 0],[]⟩):
  ∀ro ys T K,nj ro ys T K→VCx P G ro f ys T K:=by
 intro ro ys T K hw
 unfold nj at hw
 split at hw
 ·rename_i b tok
  obtain ⟨hb,hk⟩:=hw
  refine VCx.loose ?_
  refine (VCx.lift (xs:= [.vec 1 b .none]) [] [] hG nodup_nil nodup_nil (λk hk=>by simp at hk) (by simp) (λi hi=>by simp at hi) (by simp [ap,cj,TV.ren,hb.ren,Tok.ren]) (h b hb) (λx T' hq=>⟨zero_le _,zero_le _⟩)).mono ?_
  rintro x T' ⟨y,T2,⟨rfl,rfl⟩,rfl,rfl⟩
  have e:VT.back T [] [] ⟨[aM b 0 0],[]⟩={T with objs:=T.objs++ [aM b 0 0]}:=by
   simp only [VT.back,map_cons,map_nil,bH hb,cn,List.append_nil]
  rw [e]
  simpa [TV.ren,ba] using hk
 ·exact hw.elim
end
def aaT (B:Bs)(n:Int):Bs:=B.drop n.toNat
def Kg (m:Int)(B:Bs)(n e:Int):Int:=bif cR m (aaT B n) e then n+m else n
section
variable {P:Program}{G:aV}
end
--bumped 32
section
variable {P:Program}{G:aV}
end
section
variable {P:Program}{G:aV}
theorem lF (vs:List Value):(vs.map λv=> [TV.val v]).flatten=vs.map .val:=by
 induction vs with
 |nil=>rfl
 |cons a l ih=>simp [ih]
theorem VCx.ofRetsT {f:FuncId}{xs:List TV}{us:List Value}(hxs:xs.map dD=us.map some){ty:TypeId}{vs:List Value}(h1:∀v∈vs,v.oneCell'=true)(hm:vs.length≤maxLen)
  (h:∀w,Calls P f us.toArray w (Rets w λv w'=>w'.ownsRow w.heap.size ty 1 v vs.length vs)):VCx P G 0 f xs ⟨[],[]⟩ λx T'=>x=.vec 1 (vs.map λv=> [.val v]) .none∧T'=⟨[],[]⟩:=by
 intro g w us' r hG hx
 obtain rfl:us'=us:=A3 hxs hx
 refine (h w).mono ?_
 rintro e w' ⟨v,rfl,gr,hl,hown⟩
 have r1:=r.gr gr
 have e1:=Evo.of_gr r gr
 rcases hown with ⟨rfl,h0⟩ | ⟨b,cap,cur,rfl,hb,hg,hnc,hcm,hcs,htk⟩
 ·have:vs= []:=List.eq_nil_of_length_eq_zero (by omega)
  subst this
  exact ⟨_,_,g,_,rfl,⟨rfl,rfl⟩,e1,r1,.nil trivial,⟨by simp,λi hi=>absurd hi (not_lt_zero i),λi o b hi=>absurd hi (not_lt_zero i)⟩⟩
 ·have hnf:¬g.fr b:=λhf=>by have:=r.fr b hf;omega
  have hcell:∀(j:Nat) u,vs[j]?=some u→w'.cell? ⟨b,0+j,none⟩=some u:=λj u hu=>by
   have hj:=(List.getElem?_eq_some_iff.1 hu).1
   unfold cell?
   simp only [hg,zero_add]
   rw [←htk,List.getElem?_take,if_pos (by omega)] at hu
   simpa using hu
  refine ⟨_,_,g.addSt b (λo=>o<vs.length),_,rfl,⟨rfl,rfl⟩,e1.trans (Evo.addSt hnf),r1.addSt hnf (λid o h=>by simp at h) (λk x o hx=>by rw [r1.tout k (zero_le _)] at hx;cases hx) (λo ho=> ?_),?_,⟨by simp,λi hi=>absurd hi (not_lt_zero i),λi o b hi=>absurd hi (not_lt_zero i)⟩⟩
  ·have:=hcell o _ (getElem?_eq_getElem ho)
   rw [zero_add] at this
   rw [this];rfl
  ·refine .mk_vec (us:=vs) (by simp) (by simpa using hnc) hcm (λe he=>by obtain ⟨v,_,rfl⟩:=List.mem_map.1 he;rfl) trivial (by rw [lF];exact VRs.vals _ _ _) (λj hj=>.inr ⟨rfl,?_⟩) hcell h1
   rw [lF] at hj
   simpa using hj
end
abbrev ah (a1:Int):TV:=(.val (.int .i64 a1))
abbrev cd (a1:Int):TV:=(.val (.int .u32 a1))
abbrev aY (a1:List (List TV)):TV:=(.vec 2 a1 .none)
abbrev av (a1:List (List TV)):TV:=(.vec 1 a1 .none)
abbrev cS (a1:Bool):TV:=(.val (.bool a1))
abbrev t6 (a1 a2 a3 a4:Int)(a5 a6:List (List TV))(a7:Int)(a8:List (List TV))(a9 a10:Int)(a11:Bool)(a12:List (List TV))(a13 a14:Int)(a15:List (List TV)):VO:=(.cells [(ah a1),(ah a2),(ah a3),(cd a4),(aY a5),(aY a6),(ah a7),(av a8),(cd a9),(ah a10),(cS a11),(aY a12),(ah a13),(ah a14),(av a15)])
abbrev UB (a1 a2 a3 a4:Int)(a5 a6:List (List TV))(a7:Int)(a8:List (List TV))(a9 a10:Int)(a11:Bool)(a12:List (List TV))(a13 a14:Int)(a15:List (List TV))(a16:List (Nat × Nat × Bool)):VT:=⟨[(t6 a1 a2 a3 a4 a5 a6 a7 a8 a9 a10 a11 a12 a13 a14 a15)],a16⟩
abbrev aB:TV:=(.val (.int .i64 0))
abbrev ij:TV:=(.vec 1 [] .none)
abbrev eg:VO:=(.cells [aB,aB,ij])
abbrev UC (a1:VO):VT:=⟨[a1,eg,eg],[]⟩
abbrev lG:TV:=(.val (.int .i64 4))
abbrev bD:TV:=(.val (.int .u32 0))
abbrev fK:TV:=(.vec 2 [] .none)
abbrev aj:TV:=(.val (.bool false))
abbrev j8:TV:=(.val (.int .u8 255))
abbrev dA:VO:=(.cells [j8,j8,j8,j8,j8,j8,j8,j8,j8,j8,j8,j8,j8,j8,j8,j8])
abbrev Nx (a1 a2 a3 a4:Int)(a5 a6:List (List TV))(a7:Int)(a8:List (List TV))(a9 a10:Int)(a11:Bool)(a12:List (List TV))(a13 a14:Int)(a15:List (List TV))(a16 a17 a18 a19:Int)(a20 a21:List (List TV))(a22:Int)(a23:List (List TV))(a24 a25:Int)(a26:Bool)(a27:List (List TV))(a28 a29:Int)(a30:List (List TV))(a31:List (Nat × Nat × Bool)):VT:=⟨[(t6 a1 a2 a3 a4 a5 a6 a7 a8 a9 a10 a11 a12 a13 a14 a15),(t6 a16 a17 a18 a19 a20 a21 a22 a23 a24 a25 a26 a27 a28 a29 a30),(.cells [lG,aB,aB,bD,fK,fK,aB,ij,bD,aB,aj,fK,aB,aB,ij]),dA,dA,dA],a31⟩
abbrev Ny:List TV:= [lG,aB,aB,bD,fK,fK,aB,ij,bD,aB,aj,fK,aB,aB,ij]
abbrev dV:TV:=(.val (.int .i64 3))
abbrev Nz (a1 a2 a3 a4:Int)(a5 a6:List (List TV))(a7:Int)(a8:List (List TV))(a9 a10:Int)(a11:Bool)(a12:List (List TV))(a13 a14:Int)(a15:List (List TV))(a16 a17 a18 a19:Int)(a20 a21:List (List TV))(a22:Int)(a23:List (List TV))(a24 a25:Int)(a26:Bool)(a27:List (List TV))(a28 a29:Int)(a30:List (List TV))(a31 a32:Int)(a33:List (List TV))(a34:List (Nat × Nat × Bool)):VT:=⟨[(t6 a1 a2 a3 a4 a5 a6 a7 a8 a9 a10 a11 a12 a13 a14 a15),(t6 a16 a17 a18 a19 a20 a21 a22 a23 a24 a25 a26 a27 a28 a29 a30),(.cells [dV,aB,aB,bD,fK,fK,aB,ij,bD,aB,aj,fK,(ah a31),(ah a32),(av a33)]),dA,dA,dA],a34⟩
abbrev NA (a1 a2:Int)(a3:List (List TV)):List TV:= [dV,aB,aB,bD,fK,fK,aB,ij,bD,aB,aj,fK,(ah a1),(ah a2),(av a3)]
abbrev dk:TV:=(.val (.int .i64 2))
abbrev NB (a1 a2 a3 a4:Int)(a5 a6:List (List TV))(a7:Int)(a8:List (List TV))(a9 a10:Int)(a11:Bool)(a12:List (List TV))(a13 a14:Int)(a15:List (List TV))(a16 a17 a18 a19:Int)(a20 a21:List (List TV))(a22:Int)(a23:List (List TV))(a24 a25:Int)(a26:Bool)(a27:List (List TV))(a28 a29:Int)(a30 a31:List (List TV))(a32:Int)(a33:List (List TV))(a34 a35:Int)(a36:Bool)(a37:List (List TV))(a38:List (Nat × Nat × Bool)):VT:=⟨[(t6 a1 a2 a3 a4 a5 a6 a7 a8 a9 a10 a11 a12 a13 a14 a15),(t6 a16 a17 a18 a19 a20 a21 a22 a23 a24 a25 a26 a27 a28 a29 a30),(.cells [dk,aB,aB,bD,fK,(aY a31),(ah a32),(av a33),(cd a34),(ah a35),(cS a36),(aY a37),aB,aB,ij]),dA,dA,dA],a38⟩
abbrev dK:TV:=(.val (.int .i64 1))
abbrev NC (a1 a2 a3 a4:Int)(a5 a6:List (List TV))(a7:Int)(a8:List (List TV))(a9 a10:Int)(a11:Bool)(a12:List (List TV))(a13 a14:Int)(a15:List (List TV))(a16 a17 a18 a19:Int)(a20 a21:List (List TV))(a22:Int)(a23:List (List TV))(a24 a25:Int)(a26:Bool)(a27:List (List TV))(a28 a29:Int)(a30:List (List TV))(a31 a32 a33:Int)(a34:List (List TV))(a35:List (Nat × Nat × Bool)):VT:=⟨[(t6 a1 a2 a3 a4 a5 a6 a7 a8 a9 a10 a11 a12 a13 a14 a15),(t6 a16 a17 a18 a19 a20 a21 a22 a23 a24 a25 a26 a27 a28 a29 a30),(.cells [dK,(ah a31),(ah a32),(cd a33),(aY a34),fK,aB,ij,bD,aB,aj,fK,aB,aB,ij]),dA,dA,dA],a35⟩
abbrev ND (a1 a2 a3:Int)(a4:List (List TV)):List TV:= [dK,(ah a1),(ah a2),(cd a3),(aY a4),fK,aB,ij,bD,aB,aj,fK,aB,aB,ij]
abbrev Dx (a1:List (List TV))(a2:Int)(a3:List (List TV))(a4 a5:Int)(a6:Bool)(a7:List (List TV)):TV:=(.agg [(aY a1),(ah a2),(av a3),(cd a4),(ah a5),(cS a6),(aY a7)])
abbrev Dy (a1 a2 a3:Int)(a4:List (List TV)):TV:=(.agg [(ah a1),(ah a2),(cd a3),(aY a4)])
abbrev nD (a1:Int)(a2:List (List TV)):VO:=(.cells [(ah a1),(av a2)])
abbrev Dz (a1:Int)(a2:List (List TV))(a3:List (Nat × Nat × Bool)):VT:=⟨[(nD a1 a2)],a3⟩
abbrev lH (a1 a2 a3:Int)(a4:List (List TV)):VO:=(.cells [(ah a1),(ah a2),(cd a3),(aY a4)])
abbrev NE (a1 a2 a3:Int)(a4:List (List TV))(a5:Int)(a6:List (List TV)):VT:=⟨[(lH a1 a2 a3 a4),(nD a5 a6)],[]⟩
abbrev UD (a1:Int)(a2:List (List TV))(a3 a4:Int):List TV:= [aj,(ah a1),(aY a2),(ah a3),(ah a4)]
abbrev aaU (a1:List (List TV))(a2:Int):List TV:= [aj,aB,(aY a1),(ah a2),aB]
abbrev DA (a1 a2 a3:Int)(a4:List (List TV)):VT:=⟨[(lH a1 a2 a3 a4)],[]⟩
abbrev Id (a1:List (List TV))(a2:Int)(a3:List (List TV))(a4 a5:Int)(a6:Bool)(a7:List (List TV)):VO:=(.cells [(aY a1),(ah a2),(av a3),(cd a4),(ah a5),(cS a6),(aY a7)])
abbrev t7 (a1:List (List TV))(a2:Int)(a3:List (List TV))(a4 a5:Int)(a6:Bool)(a7:List (List TV)):VT:=⟨[(Id a1 a2 a3 a4 a5 a6 a7)],[]⟩
abbrev nE (a1:TV):VO:=(.cells [a1])
abbrev i6 (a1 a2:Int):VO:=(.cells [(cd a1),(ah a2)])
abbrev NF (a1:TV)(a2 a3:Int):VT:=⟨[(nE a1),(i6 a2 a3)],[]⟩
abbrev w7 (a1:TV):VT:=⟨[(nE a1)],[]⟩
abbrev sx (a1:Nat):TV:=(.row 2 1 0 a1)
abbrev qK:TV:=(.row 2 0 0 0)
abbrev pd (a1:List (List TV)):TV:=(.vec 1 a1 (.tail 0 0))
abbrev sy:TV:=(.val (.int .i64 64))
abbrev pf (a1:Int)(a2:List (List TV))(a3 a4:Int)(a5:Bool):VO:=(.cells [(ah a1),(av a2),(cd a3),(ah a4),(cS a5)])
abbrev f9 (a1:Int)(a2:List (List TV))(a3 a4:Int)(a5:Bool):VT:=⟨[(pf a1 a2 a3 a4 a5)],[]⟩
abbrev NG (a1 a2:List (List TV))(a3 a4:Int):List TV:= [(aY a1),(aY a2),aj,(ah a3),(ah a4)]
abbrev NH (a1 a2:List (List TV))(a3 a4:Int):List TV:= [(av a1),(av a2),aj,(ah a3),(ah a4)]
abbrev NI (a1 a2:Int)(a3:List (Nat × Nat × Bool)):VT:=⟨[(i6 a1 a2)],a3⟩
abbrev aE:TV:=(.val (.slice .none 0 0))
abbrev aaV (a1 a2 a3 a4:Int)(a5:TV)(a6 a7:Int)(a8:List (List TV)):VO:=(.cells [(ah a1),(ah a2),(ah a3),(cd a4),a5,aE,aB,aE,bD,aB,aj,aE,(ah a6),(ah a7),(av a8)])
abbrev nF (a1:List (List TV))(a2:Nat):TV:=(.vec 15 a1 (.tail 0 a2))
abbrev pg (a1 a2 a3 a4:Int)(a5 a6:List (List TV))(a7:Int)(a8:List (List TV))(a9 a10:Int)(a11:Bool)(a12:List (List TV))(a13 a14:Int)(a15:List (List TV)):List TV:= [(ah a1),(ah a2),(ah a3),(cd a4),(aY a5),(aY a6),(ah a7),(av a8),(cd a9),(ah a10),(cS a11),(aY a12),(ah a13),(ah a14),(av a15)]
abbrev NJ (a1 a2 a3 a4:Int)(a5 a6:List (List TV))(a7:Int)(a8:List (List TV))(a9 a10:Int)(a11:Bool)(a12:List (List TV))(a13 a14:Int)(a15:List (List TV)):TV:=(.elt [(ah a1),(ah a2),(ah a3),(cd a4),(aY a5),(aY a6),(ah a7),(av a8),(cd a9),(ah a10),(cS a11),(aY a12),(ah a13),(ah a14),(av a15)])
abbrev dW (a1:List (List TV)):TV:=(.vec 15 a1 .none)
abbrev t8 (a1 a2:Int)(a3:List (List TV)):List TV:= [(ah a1),(ah a2),(av a3)]
abbrev t9 (a1:List (List TV))(a2:Int)(a3:List (List TV))(a4 a5:Int)(a6:Bool)(a7:List (List TV)):List TV:= [(aY a1),(ah a2),(av a3),(cd a4),(ah a5),(cS a6),(aY a7)]
abbrev w8 (a1 a2 a3:Int)(a4:List (List TV)):List TV:= [(ah a1),(ah a2),(cd a3),(aY a4)]
abbrev Ie (a1:List (List TV))(a2:Int)(a3:List (List TV))(a4 a5:Int)(a6:Bool)(a7 a8:List (List TV))(a9:Int)(a10:List (List TV))(a11 a12:Int)(a13:Bool)(a14:List (List TV)):VT:=⟨[(Id a1 a2 a3 a4 a5 a6 a7),(Id a8 a9 a10 a11 a12 a13 a14)],[]⟩
abbrev ub (a1:Int)(a2:List (List TV))(a3 a4:Int)(a5:Bool):List TV:= [(ah a1),(av a2),(cd a3),(ah a4),(cS a5)]
abbrev sA (a1:Int)(a2:List (List TV)):TV:=(.elt [(ah a1),(av a2)])
abbrev mB (a1 a2 a3:Int)(a4:List (List TV))(a5 a6 a7:Int)(a8:List (List TV)):VT:=⟨[(lH a1 a2 a3 a4),(lH a5 a6 a7 a8)],[]⟩
abbrev dL:TV:=(.ptr 0 0)
abbrev iy:TV:=(.ptr 1 0)
abbrev w9 (a1 a2:Int):List TV:= [dL,iy,(ah a1),(ah a2)]
abbrev If (a1:Int):List TV:= [dL,iy,(ah a1),aB]
abbrev j9 (a1:Int)(a2:List (List TV))(a3 a4:Int)(a5:Bool)(a6:Int)(a7:List (List TV))(a8 a9:Int)(a10:Bool):VT:=⟨[(pf a1 a2 a3 a4 a5),(pf a6 a7 a8 a9 a10)],[]⟩
abbrev Ac (a1 a2:Int):TV:=(.elt [(cd a1),(ah a2)])
abbrev Ad (a1:ByteArray):TV:=(.val (.string a1))
abbrev en (a1 a2:Int)(a3:List (List TV)):VO:=(.cells [(ah a1),(ah a2),(av a3)])
abbrev xf (a1 a2:Int)(a3:List (List TV))(a4 a5:Int)(a6:List (List TV)):VT:=⟨[(en a1 a2 a3),(en a4 a5 a6)],[]⟩
abbrev aI:TV:=(.val (.bool true))
abbrev lI (a1:Nat):TV:=(.row 1 2 0 a1)
abbrev xg (a1:Int)(a2:Nat)(a3:Int):VO:=(.cells [aI,(ah a1),(lI a2),aB,aB,ij,(ah a3)])
abbrev ka:TV:=(.row 1 0 0 0)
abbrev bB (a1:List TV):VO:=(.row a1)
abbrev cL:VO:=(.cells [aB,aB,aE])
abbrev lJ (a1 a2:Int):VO:=(.cells [(ah a1),(ah a2),ij])
abbrev aaW (a1:List TV)(a2 a3 a4 a5:Int):VT:=⟨[(bB a1),cL,(lJ a2 a3),(lJ a4 a5)],[]⟩
abbrev DB:VO:=(.cells [aB,aB,aB,bD,aE,aE,aB,aE,bD,aB,aj,aE,aB,aB,aE])
abbrev UE (a1:List TV)(a2:Int)(a3:List (List TV))(a4:Int)(a5:List (List TV)):VT:=⟨[(bB a1),DB,(.cells [dK,(ah a2),(av a3)]),(.cells [dK,(ah a4),(av a5)]),(.cells [dK,dk,aE])],[]⟩
abbrev DC:TV:=(.agg [aB,aB,aB,bD,aE,aE,aB,aE,bD,aB,aj,aE,aB,aB,aE])
abbrev UF (a1:Int)(a2:List (List TV)):TV:=(.tup [DC,(.agg [dK,(ah a1),(av a2)])])
abbrev UG (a1:Int):VO:=(.cells [(ah a1),aB,aB,bD,aE,aE,aB,aE,bD,aB,aj,aE,aB,aB,aE])
abbrev pi:VO:=(.cells [dK,dk,(.row 1 5 0 2)])
abbrev UH (a1:List TV)(a2:Int)(a3 a4:TV)(a5:Int):VT:=⟨[(bB a1),(UG a2),cL,eg,pi,(.row [a3,a4]),(UG a5)],[]⟩
abbrev mC:TV:=(.agg [aB,aB,aE])
abbrev UI (a1:Int):TV:=(.tup [(.agg [(ah a1),aB,aB,bD,aE,aE,aB,aE,bD,aB,aj,aE,aB,aB,aE]),mC])
abbrev aaX (a1 a2 a3:Int)(a4:List (List TV)):VO:=(.cells [(ah a1),aB,aB,bD,aE,aE,aB,aE,bD,aB,aj,aE,(ah a2),(ah a3),(av a4)])
abbrev aaY (a1 a2 a3 a4:Int)(a5:List (List TV)):VO:=(.cells [(ah a1),(ah a2),(ah a3),(cd a4),(aY a5),aE,aB,aE,bD,aB,aj,aE,aB,aB,aE])
abbrev UJ (a1:List TV)(a2 a3:TV):VT:=⟨[(bB a1),DB,pi,eg,pi,(.row [a2,a3])],[]⟩
abbrev NK:TV:=(.tup [DC,(.agg [dK,dk,(.row 1 5 0 2)])])
abbrev bp (a1:Int):TV:=(.val (.int .u8 a1))
abbrev Ig (a1 a2:Int):VO:=(.row [(bp a1),(bp a2)])
abbrev aaZ (a1:List TV)(a2 a3:Int):VT:=⟨[(bB a1),cL,(Ig a2 a3),dA,dA],[]⟩
abbrev UK (a1 a2:Int):TV:=(.tup [(ah a1),(ah a2),mC])
abbrev sB (a1:List (List TV)):TV:=(.vec 1 a1 .full)
abbrev aa0 (a1:List TV)(a2:List (List TV))(a3 a4:Int)(a5:List (List TV)):VT:=⟨[(bB a1),(.cells [dK,dV,(sB a2)]),(Ig a3 a4),dA,dA,(.cells [dK,dV,(sB a5)])],[]⟩
abbrev Py (a1:List (List TV)):TV:=(.tup [aB,aB,(.agg [dK,dV,(sB a1)])])
abbrev Y7 (a1:List TV)(a2 a3:Int):VT:=⟨[(bB a1),(.cells [dK,dk,(.row 1 2 0 2)]),(Ig a2 a3),dA,dA,(.cells [dK,dk,(.row 1 2 0 2)])],[]⟩
abbrev B4:TV:=(.tup [aB,aB,(.agg [dK,dk,(.row 1 2 0 2)])])
abbrev Pz:VO:=(.cells [dK,dK,aE])
abbrev gl:List TV:= [aB,(.val (.int .i64 29)),(.val (.int .i64 23)),(.val (.int .i64 21)),(.val (.int .i64 19))]
abbrev qd (a1 a2:Int)(a3:List (List TV)):TV:=(.agg [(ah a1),(ah a2),(av a3)])
abbrev Y8 (a1:List TV)(a2 a3:Int)(a4:List (List TV))(a5 a6:Int)(a7:List (List TV)):VT:=⟨[(bB a1),cL,(en a2 a3 a4),(en a5 a6 a7)],[]⟩
abbrev ol:TV:=(.tup [mC,aj])
abbrev gm (a1:Nat):TV:=(.row 1 1 0 a1)
abbrev gn (a1:List TV):VT:=⟨[(bB a1)],[]⟩
abbrev Ih:TV:=(.val (.int .i64 6))
abbrev qe:VO:=(.cells [dk,Ih,aE])
abbrev vA:TV:=(.agg [aB,aB,bD,aE])
abbrev B5:TV:=(.tup [vA,(.agg [dk,Ih,aE])])
abbrev qf (a1:Int):VO:=(.cells [dk,(ah a1),aE])
abbrev B6 (a1:Int):TV:=(.tup [vA,(.agg [dk,(ah a1),aE])])
abbrev B7 (a1 a2 a3:Int)(a4:List (List TV)):TV:=(.tup [(Dy a1 a2 a3 a4),mC])
abbrev qg:VO:=(.cells [dk,dV,aE])
abbrev B8:TV:=(.tup [vA,(.agg [dk,dV,aE])])
abbrev fQ (a1 a2 a3:Int):VO:=(.cells [(ah a1),(ah a2),(cd a3),aE])
abbrev B9:VO:=(.cells [dk,dk,aE])
abbrev PA:TV:=(.tup [vA,(.agg [dk,dk,aE])])
abbrev mX:VO:=(.cells [dk,aB,aE])
abbrev cf:VO:=(.cells [aB,aB,bD,aE])
abbrev yz:TV:=(.tup [vA,(.agg [dk,aB,aE])])
abbrev Ca:VO:=(.cells [dV,(.val (.int .i64 10)),aE])
abbrev Ii:TV:=(.agg [aE,aB,aE,bD,aB,aj,aE])
abbrev PC:TV:=(.tup [Ii,(.agg [dV,(.val (.int .i64 10)),aE])])
abbrev Cb (a1 a2:List (List TV)):VO:=(.cells [(aY a1),aB,ij,bD,aB,aj,(aY a2)])
abbrev PD (a1 a2:List (List TV)):TV:=(.tup [(.agg [(aY a1),aB,ij,bD,aB,aj,(aY a2)]),mC])
abbrev qh:VO:=(.cells [aB,ij,bD,aB,aj])
abbrev Cc (a1:Int)(a2:List (List TV)):TV:=(.tup [Ii,(.agg [dV,(ah a1),(av a2)])])
abbrev Y9 (a1:List (List TV))(a2:Int)(a3:List (List TV))(a4 a5:Int)(a6:Bool)(a7:List (List TV)):TV:=(.tup [(Dx a1 a2 a3 a4 a5 a6 a7),mC])
abbrev fR (a1:List (List TV)):VO:=(.cells [(.ptr 5 6),(av a1)])
abbrev fm (a1:List (List TV)):VO:=(.cells [(.ptr 5 0),(av a1)])
abbrev fS (a1 a2:List (List TV)):VO:=(.cells [(aY a1),aB,aE,bD,aB,aj,(aY a2)])
abbrev sC (a1 a2:List (List TV)):TV:=(.tup [(.agg [(aY a1),aB,aE,bD,aB,aj,(aY a2)]),mC])
abbrev om:TV:=(.ptr 3 0)
abbrev eV:VO:=(.cells [om])
abbrev lK:VO:=(.cells [aE,aB,aE,bD,aB,aj,aE])
abbrev Cd (a1:Int)(a2:List (List TV)):VO:=(.cells [dV,(ah a1),(av a2)])
abbrev mY:TV:=(.ptr 4 0)
abbrev oq (a1:List (List TV)):TV:=(.vec 3 a1 .none)
abbrev PE (a1:List (List TV))(a2 a3:Int):List TV:= [dL,iy,om,mY,(oq a1),(ah a2),(ah a3)]
abbrev lL:VO:=(.cells [aB,aE,bD,aB,aj])
abbrev eI (a1:Int)(a2:TV)(a3 a4:Int)(a5:Bool):VO:=(.cells [(ah a1),a2,(cd a3),(ah a4),(cS a5)])
abbrev Ce (a1:Int)(a2:TV)(a3 a4:Int)(a5:Bool)(a6:List TV)(a7 a8:Int)(a9:List (List TV)):VT:=⟨[lL,cL,eg,(eI a1 a2 a3 a4 a5),(.cells a6),(en a7 a8 a9)],[]⟩
abbrev PF:VO:=(.cells [dV,dK,ij])
abbrev Ij:TV:=(.agg [aB,aE,bD,aB,aj])
abbrev Ik (a1:List (List TV))(a2:Int)(a3:List (List TV))(a4 a5:Int)(a6:Bool)(a7:List TV):VT:=⟨[lL,(.cells [dV,dV,(sB a1)]),eg,(pf a2 a3 a4 a5 a6),(.cells a7)],[]⟩
abbrev Il (a1 a2 a3:Int)(a4:Bool):VO:=(.cells [(ah a1),aE,(cd a2),(ah a3),(cS a4)])
abbrev Im (a1:List (List TV))(a2 a3 a4:Int)(a5:Bool)(a6:List TV):VT:=⟨[lL,(.cells [dV,dV,(sB a1)]),eg,(Il a2 a3 a4 a5),(.cells a6)],[]⟩
abbrev vB (a1:List (List TV)):TV:=(.tup [Ij,(.agg [dV,dV,(sB a1)])])
abbrev PG:VT:=⟨[lL,cL,eg,lL,(.cells [aj,aj,aj,aj,aj,aj,aj,aj,aj,aj,aj,aj,aj,aj,aj,aj,aj,aj,aj,aj,aj,aj,aj,aj,aj,aj,aj,aj,aj,aj,aj,aj,aj,aj,aj,aj,aj,aj,aj,aj,aj,aj,aj,aj,aj,aj,aj,aj,aj,aj,aj,aj,aj,aj,aj,aj,aj,aj,aj,aj,aj,aj,aj,aj,aj,aj,aj,aj,aj,aj,aj,aj,aj,aj,aj,aj,aj,aj,aj,aj,aj,aj,aj,aj,aj,aj,aj,aj,aj,aj,aj,aj,aj,aj,aj,aj,aj,aj,aj,aj,aj,aj,aj,aj,aj,aj,aj,aj,aj,aj,aj,aj,aj,aj,aj,aj,aj,aj,aj,aj,aj,aj,aj,aj,aj,aj,aj,aj,aj,aj,aj,aj,aj,aj,aj,aj,aj,aj,aj,aj,aj,aj,aj,aj,aj,aj,aj,aj,aj,aj,aj,aj,aj,aj,aj,aj,aj,aj,aj,aj,aj,aj,aj,aj,aj,aj,aj,aj,aj,aj,aj,aj,aj,aj,aj,aj,aj,aj,aj,aj,aj,aj,aj,aj,aj,aj,aj,aj,aj,aj,aj,aj,aj,aj,aj,aj,aj,aj,aj,aj,aj,aj,aj,aj,aj,aj,aj,aj,aj,aj,aj,aj,aj,aj,aj,aj,aj,aj,aj,aj,aj,aj,aj,aj,aj,aj,aj,aj,aj,aj,aj,aj,aj,aj,aj,aj,aj,aj,aj,aj,aj,aj,aj,aj,aj,aj,aj,aj,aj,aj,aj,aj,aj,aj,aj,aj])],[]⟩
abbrev cl:VO:=(.cells [dL])
abbrev In (a1:TV):VO:=(.cells [sy,lG,a1])
abbrev PH (a1:Int)(a2:TV)(a3 a4:Int)(a5:Bool)(a6 a7:Int)(a8:List (List TV))(a9 a10:TV):VT:=⟨[(eI a1 a2 a3 a4 a5),(en a6 a7 a8),cl,(In a9),(In a10)],[]⟩
abbrev Io (a1:TV):VO:=(.cells [sy,dK,a1])
abbrev PI (a1:Int)(a2:TV)(a3 a4:Int)(a5:Bool)(a6 a7:Int)(a8:List (List TV))(a9 a10:TV):VT:=⟨[(eI a1 a2 a3 a4 a5),(en a6 a7 a8),cl,(Io a9),(Io a10)],[]⟩
abbrev qi (a1:TV):VO:=(.cells [aB,aB,a1])
abbrev Za (a1:TV):VO:=(.cells [(.val (.int .i64 128)),lG,a1])
abbrev Zb (a1:TV):VO:=(.cells [sy,aB,a1])
abbrev vC:TV:=(.val (.int .i64 5))
abbrev mZ:TV:=(.vec 1 [] (.tail 0 0))
abbrev bS (a1:List (List TV))(a2:Nat):TV:=(.vec 1 a1 (.tail 0 a2))
abbrev Ip (a1:List (List TV))(a2:Nat)(a3:Int):List TV:= [aE,aj,dL,(bS a1 a2),(ah a3),aB]
abbrev qj (a1:List (List TV))(a2:Nat):List TV:= [aE,aj,dL,(bS a1 a2)]
abbrev Iq (a1:List (List TV))(a2 a3:Int)(a4:List (List TV))(a5 a6:Int):List TV:= [(av a1),(ah a2),(ah a3),(av a4),(ah a5),(ah a6)]
abbrev sD (a1:Int):TV:=(.elt [(ah a1)])
abbrev yA:VO:=(.cells [dV,dK,aE])
abbrev vD (a1:List (List TV))(a2:Nat):TV:=(.vec 3 a1 (.tail 0 a2))
abbrev yB (a1:List (List TV))(a2:Nat):List TV:= [aE,dL,iy,(vD a1 a2)]
abbrev PJ:TV:=(.agg [dV,dK,aE])
abbrev jb (a1:List (List TV))(a2:Nat):TV:=(.vec 2 a1 (.tail 0 a2))
abbrev Cf (a1:List (List TV))(a2:Nat):List TV:= [dL,aE,aB,aj,(jb a1 a2)]
abbrev yC:TV:=(.vec 2 [] (.tail 0 0))
abbrev PL:List TV:= [dL,aE,aB,aj,yC]
abbrev Ir (a1:List (List TV))(a2:Nat):List TV:= [aE,aj,dL,(jb a1 a2)]
abbrev Cg:TV:=(.tup [aE,aj])
abbrev jU:TV:=(.val (.int .u8 0))
abbrev PM (a1:Int):VO:=(.cells [(bp a1),jU,jU,jU])
abbrev gp (a1:Int):List TV:= [(bp a1)]
abbrev vE (a1 a2:Int):TV:=(.agg [(cd a1),(ah a2)])
abbrev yD (a1 a2:Int):TV:=(.tup [(vE a1 a2),aI])
abbrev PN:VO:=(.cells [jU,jU,jU,jU])
abbrev iz:VO:=(.cells [bD,aB])
abbrev iA:TV:=(.tup [(.agg [bD,aB]),aj])
abbrev cu (a1:VO):VT:=⟨[a1],[]⟩
abbrev vF:TV:=(.vec 1 [] .full)
abbrev am:VT:=⟨[],[]⟩
abbrev k6 (a b:Int):Bool:=aX (Value.int i64 a) (Value.int i64 b)
def ae:aV:=λ_=>none
def bt:FuncId→Option aW:=λ_=>none
def aN:Nat→Option (bN × Code):=λ_=>none
abbrev nS:=41
abbrev kJ:=71
abbrev Ae:=115
abbrev xh:=111
abbrev kb:=80
abbrev Is:=113
abbrev kK:=76
abbrev jy:=82
abbrev It:=81
abbrev i7:=72
abbrev m8:=73
abbrev Ch:=74
abbrev nG:=69
abbrev vG:=139
def tl1 (T:VT)(n:Nat):VT:={T with tails:= [(n,1,false)]}
def nk:aW:=λ_ ys T K=>match ys with
 |[.vec 1 b _]=>IsB b∧K (.vec 1 b .none) T
 |_=>False
def DD:List Nat:= [5,10,11,12]
def DE (b:Bs)(n j:Int):List TV:= [.val (.int .u64 n),.vec 1 b .none,.val (.int .i64 b.length),.val (.int .i64 j)]
def geL (b:Bs)(n:Int)(c0:Code):Nat→Option (bN × Code):=ct [(0,dE 23 DD [] (DE b 0 0) ⟨[],[]⟩ λK=>K .normal (aQ 23 DD (DE b n b.length)) ⟨[],[]⟩ [],c0)]
def Iu:aW:=λro ys T K=>match ys with
 |[.ptr k 0,.val (.int .i64 n)]=>match T.objs[k]? with
  |some (.cells [.val (.bool true),.vec 1 b .none,.val (.int .i64 a),.val (.int .i64 e)])=>(ble ro k=true∧IsB b)∧K (.vec 1 (cm n b e) .none) {T with objs:=T.objs.set k (aM (aG n b e) (bC n b e a) (aH n b e))}
  |_=>False
 |_=>False
def Iv:aW:=λ_ ys T K=>match ys with
 |[.vec 1 b _,.val (.int .i64 n)]=>(IsB b∧wx n∧wy n b)∧K (.val (.int .u64 (de n b))) T
 |_=>False
def Af:aW:=λro ys T K=>match ys with
 |[.ptr k 0,.val (.int .i64 n)]=>match T.objs[k]? with
  |some (.cells [.val (.bool true),.vec 1 b .none,.val (.int .i64 a),.val (.int .i64 e)])=>(ble ro k=true∧IsB b∧wx n)∧K (.val (.int .u64 (nQ n b e))) {T with objs:=T.objs.set k (aM (aG n b e) (bC n b e a) (aH n b e))}
  |_=>False
 |_=>False
theorem UL (Q:TV→VT→Prop):ar prog ae bt aT 300 aN 0 nS [.vec 1 [] .none] am Q=
 (Q aE am∧
 Q vF am):=by kernel_rfl
theorem UM (r:List TV)(b:Bs)(Q:TV→VT→Prop):ar prog ae bt (aZ [(999998,.dead,none),(7,.vec 1 (r::b) (.tail 0 (b.length+1)),some λT=>tl1 T (b.length+1))]) 300 aN 0 nS [.vec 1 (r::b) .none] am Q=
 (bb prog (λ_=>.none) 0 am (.call ⟨(.builtin .append),#[(.tmp 5),(.tmp 6)],#[22,22]⟩) [(5,vF),(6,(av ([(r)]++b)))] (bS ([(r)]++b) (length b+(1:Nat))) ⟨[],[((length b+(1:Nat)),(1,false))]⟩∧
 Q (bS ([(r)]++b) (length b+(1:Nat))) ⟨[],[((length b+(1:Nat)),(1,false))]⟩):=by kernel_rfl
theorem UN (b:Bs)(Q:TV→VT→Prop):ar prog ae (aF [(nS,nk)]) aT 300 aN 0 kJ [.vec 1 b .none] am Q=
 (IsB (b)∧
 Q dL ⟨[(.cells [aI,(av b),aB,aB])],[]⟩):=by kernel_rfl
theorem UO (b:Bs)(a e n:Int)(k:Nat)(Q:TV→VT→Prop):ar prog ae bt (aZ [(999998,.dead,none),(32,.vec 1 (b.take k) .none,none),(40,.vec 1 (b.drop k) .none,none)]) 300 aN 0 Ae [.ptr 0 0,.val (.int .i64 n)] (cu (aM b a e)) Q=
 (bif !ax eql (k6 e (0:Int))
 then Q aE ⟨[(.cells [aI,(av b),(ah a),(ah e)])],[]⟩
 else (bif decide (n<(0:Int))
 then Q aE ⟨[(.cells [aI,(av b),(ah a),dk])],[]⟩
 else (bif decide (n>(↑(length b):Int))
 then Q aE ⟨[(.cells [aI,(av b),(ah a),dV])],[]⟩
 else (bc prog (λ_=>.none) (.slice 22 (.tmp 29) .none (.some (.tmp 30)) (.some (.tmp 31))) [(29,(av b)),(30,(ah n)),(31,(ah n))] (av (List.take k b))∧
 (bc prog (λ_=>.none) (.slice 22 (.tmp 38) (.some (.tmp 39)) .none .none) [(38,(av b)),(39,(ah n))] (av (drop k b))∧
 Q (av (List.take k b)) ⟨[(.cells [aI,(av (drop k b)),(ah (wrap i64 (a+n))),(ah e)])],[]⟩))))):=by kernel_rfl
theorem UP (b c:Bs)(n m:Int)(Q:TV→VT→Prop):ar prog ae bt (aZ [(999998,.dead,none),(10,.vec 1 c .none,none)]) 300 (geL c m (aD prog nG 0)) 0 nG [.vec 1 b .none,.val (.int .i64 n)] am Q=
 (bc prog (λ_=>.none) (.slice 22 (.tmp 8) .none (.some (.tmp 9)) .none) [(8,(av b)),(9,(ah n))] (av c)∧
 ((aD prog nG (0:Nat)=aD prog nG (0:Nat))∧
 (((@Eq (Option Nat) .none .none)∧
 ((@Eq (Nat) 0 0)∧
 ((@Eq (List Nat) [] [])∧
 (True  ∧
 ((@Eq (VT) am am)∧
 ((@Eq (Bool) true true)∧
 (@Eq (List TV) [(.val (.int .u64 0)),(av c),(ah (↑(length c):Int)),aB] [(.val (.int .u64 0)),(av c),(ah (↑(length c):Int)),aB])))))))∧
 Q (.val (.int .u64 m)) am))):=by kernel_rfl
theorem Gb (b:Bs)(n z:Int)(j:Nat)(Q:Exit→List TV→VT→List Nat→Nat→Prop):vx prog ae bt (aZ [(999998,.dead,none),(14,.elt (bT z),none)]) 300 aN none 0 (cq prog nG 0) (aQ 23 DD (DE b n j)) am [] (cN DD Q)=
 (bif decide ((↑j:Int)<(↑(length b):Int))
 then (bc prog (λ_=>.none) (.indexAddr 22 (.tmp 10) (.tmp 12)) [(10,(av b)),(12,(ah (↑j:Int)))] (.elt [(bp z)])∧
 Q .normal [(.val (.int .u64 (wrap u64 (↑(toNat (ofInt (IntKind.bits u64) (wrap u64 (n*(2:Int)^min (Int.toNat (8:Int)) (IntKind.bits u64))) ||| ofInt (IntKind.bits u64) (wrap u64 z))):Int)))),(av b),(ah (↑(length b):Int)),(ah (wrap i64 ((↑j:Int)+(1:Int))))] am [] 23)
 else Q (.exit 0) [(.val (.int .u64 n)),(av b),(ah (↑(length b):Int)),(ah (↑j:Int))] am [] 23):=by kernel_rfl
theorem UQ (b:Bs)(a e n:Int)(Q:TV→VT→Prop):ar prog ae (aF [(Ae,Iu),(nG,Iv)]) aT 300 aN 0 xh [.ptr 0 0,.val (.int .i64 n)] (cu (aM b a e)) Q=
 (((@Eq (Bool) true true)∧
 IsB (b))∧
 (bif decide ((↑(length (cm n b e)):Int)<n)
 then Q (.val (.int .u64 0)) ⟨[(.cells [aI,(av (aG n b e)),(ah (bC n b e a)),(ah (aH n b e))])],[]⟩
 else ((IsB (cm n b e)∧
 (wx (n)∧
 wy (n) (cm n b e)))∧
 Q (.val (.int .u64 (de n (cm n b e)))) ⟨[(.cells [aI,(av (aG n b e)),(ah (bC n b e a)),(ah (aH n b e))])],[]⟩))):=by kernel_rfl
theorem UR (b:Bs)(a e n:Int)(Q:TV→VT→Prop):ar prog ae (aF [(Ae,Iu),(nS,nk)]) aT 300 aN 0 kb [.ptr 0 0,.val (.int .i64 n)] (cu (aM b a e)) Q=
 (((@Eq (Bool) true true)∧
 IsB (b))∧
 (IsB (cm n b e)∧
 Q (av (cm n b e)) ⟨[(.cells [aI,(av (aG n b e)),(ah (bC n b e a)),(ah (aH n b e))])],[]⟩)):=by kernel_rfl
theorem US (b:Bs)(a e n:Int)(Q:TV→VT→Prop):ar prog ae (aF [(Ae,Iu),(kJ,nj)]) aT 300 aN 0 Is [.ptr 0 0,.val (.int .i64 n)] (cu (aM b a e)) Q=
 (((@Eq (Bool) true true)∧
 IsB (b))∧
 (IsB (cm n b e)∧
 Q iy ⟨[(.cells [aI,(av (aG n b e)),(ah (bC n b e a)),(ah (aH n b e))]),(.cells [aI,(av (cm n b e)),aB,aB])],[]⟩)):=by kernel_rfl
theorem UT (b:Bs)(a e:Int)(Q:TV→VT→Prop):ar prog ae bt aT 300 aN 0 kK [.ptr 0 0] (cu (aM b a e)) Q=
 (bif !ax eql (k6 e (0:Int))
 then Q aB ⟨[(.cells [aI,(av b),(ah a),(ah e)])],[]⟩
 else Q (ah (↑(length b):Int)) ⟨[(.cells [aI,(av b),(ah a),(ah e)])],[]⟩):=by kernel_rfl
theorem UU (b:Bs)(a e:Int)(Q:TV→VT→Prop):ar prog ae bt aT 300 aN 0 jy [.ptr 0 0] (cu (aM b a e)) Q=
Q (ah e) ⟨[(.cells [aI,(av b),(ah a),(ah e)])],[]⟩:=by kernel_rfl
theorem UV (b:Bs)(a e:Int)(Q:TV→VT→Prop):ar prog ae (aF [(kK,nR),(kb,Dw)]) aT 300 aN 0 It [.ptr 0 0] (cu (aM b a e)) Q=
 (((@Eq (Bool) true true)∧
 IsB (b))∧
 (((@Eq (Bool) true true)∧
 IsB (b))∧
 Q (av (cm (bw b e) b e)) ⟨[(.cells [aI,(av (aG (bw b e) b e)),(ah (bC (bw b e) b e a)),(ah (aH (bw b e) b e))])],[]⟩)):=by kernel_rfl
theorem UW (b:Bs)(a e:Int)(Q:TV→VT→Prop):ar prog ae (aF [(xh,Af)]) aT 300 aN 0 i7 [.ptr 0 0] (cu (aM b a e)) Q=
 (((@Eq (Bool) true true)∧
 (IsB (b)∧
 wx 1))∧
 Q (ah (wrap i64 (nQ (1:Int) b e))) ⟨[(.cells [aI,(av (aG (1:Int) b e)),(ah (bC (1:Int) b e a)),(ah (aH (1:Int) b e))])],[]⟩):=by kernel_rfl
theorem RC (b:Bs)(a e:Int)(Q:TV→VT→Prop):ar prog ae (aF [(xh,Af)]) aT 300 aN 0 m8 [.ptr 0 0] (cu (aM b a e)) Q=
 (((@Eq (Bool) true true)∧
 (IsB (b)∧
 wx 2))∧
 Q (ah (wrap i64 (nQ (2:Int) b e))) ⟨[(.cells [aI,(av (aG (2:Int) b e)),(ah (bC (2:Int) b e a)),(ah (aH (2:Int) b e))])],[]⟩):=by kernel_rfl
theorem RD (b:Bs)(a e:Int)(Q:TV→VT→Prop):ar prog ae (aF [(xh,Af)]) aT 300 aN 0 Ch [.ptr 0 0] (cu (aM b a e)) Q=
 (((@Eq (Bool) true true)∧
 (IsB (b)∧
 wx 4))∧
 Q (cd (wrap u32 (nQ (4:Int) b e))) ⟨[(.cells [aI,(av (aG (4:Int) b e)),(ah (bC (4:Int) b e a)),(ah (aH (4:Int) b e))])],[]⟩):=by kernel_rfl
theorem RE (b:Bs)(Q:TV→VT→Prop):ar prog ae (aF [(nG,Iv)]) (aZ [(999998,.dead,none),(12,.vec 1 b .none,none)]) 300 aN 0 vG [.vec 1 b .none,.val (.int .i64 0)] am Q=
 (bif !decide ((0:Int)≤wrap i64 ((↑(length b):Int)-(4:Int)))
 then Q (.tup [bD,aj]) am
 else (bc prog (λ_=>.none) (.slice 22 (.tmp 10) (.some (.tmp 11)) .none .none) [(10,(av b)),(11,aB)] (av b)∧
 ((IsB (b)∧
 (wx 4∧
 wy 4 (b)))∧
 Q (.tup [(cd (wrap u32 (de (4:Int) b))),aI]) am))):=by kernel_rfl
theorem ac:prog.follows .mixedOrders=true:=by kernel_rfl
theorem aa:jw prog=true:=by kernel_rfl
theorem au:dt ae:=λ_ _ h=>by cases h
theorem gH (q:IntKind)(x y:Int):ax eql (aX (.int q x) (.int q y))=decide (x=y):=by
 simp [ax,aX,cg,Bool.beq_eq_decide_eq]
theorem ep (q:IntKind)(x y:Int):ax neq (aX (.int q x) (.int q y))= !decide (x=y):=by
 simp [ax,aX,cg,Bool.beq_eq_decide_eq]
theorem cO:∃inf:TypeInfo,prog.info? 5=some inf∧inf.size=1∧inf.bytes+1=2∧inf.zero=some (.int .u8 0):=
 ⟨(prog.info? 5).getD default,by kernel_rfl,by kernel_rfl,by kernel_rfl,by kernel_rfl⟩
section
variable {x i m:Operand}{l:List (Nat × TV)}{b:Bs}{tok:Tok}{k k':IntKind}{z z':Int}{e:List TV}{n n':Nat}
theorem RF (hx:aP ae l x=.vec 1 b tok)(hz:aP ae l i=.val (.int k z))(h0:0≤z)(he:b[z.toNat]?=some e):
  bc prog ae (.indexAddr 22 x i) l (.elt e):=by
 obtain ⟨inf,i1,i2,_,_⟩:=cO
 exact dy (inf:=inf) underlying22 i1 (by rw [i2];exact hx) hz h0 he
theorem qk (hx:aP ae l x=.vec 1 b tok)(hz:aP ae l i=.val (.int k z))(h0:0≤z)(hn:z.toNat=n)(he:n≤b.length):bc prog ae (.slice 22 x none (some i) none) l (.vec 1 (b.take n) .none):=by
 subst hn
 obtain ⟨inf,i1,i2,_,_⟩:=cO
 have h:=Dq (inf:=inf) (P:=prog) (G:=ae) (x:=x) (i:=i) (l:=l) (es:=b) (tok:=tok) underlying22 i1 (by rw [i2];exact hx) hz h0 he
 rw [i2] at h
 exact h
theorem A4 (hx:aP ae l x=.vec 1 b tok)(hz:aP ae l i=.val (.int k z))(h0:0≤z)(hn:z.toNat=n)(he:n≤b.length):bc prog ae (.slice 22 x (some i) none none) l (.vec 1 (b.drop n) tok):=by
 subst hn
 obtain ⟨inf,i1,i2,_,_⟩:=cO
 have h:=Dr (inf:=inf) (P:=prog) (G:=ae) (x:=x) (i:=i) (l:=l) (es:=b) (tok:=tok) underlying22 i1 (by rw [i2];exact hx) hz h0 he
 rw [i2] at h
 exact h
theorem Kh (hx:aP ae l x=.vec 1 b tok)(hz:aP ae l i=.val (.int k z))(hm:aP ae l m=.val (.int k' z))(h0:0≤z)(hn:z.toNat=n)(he:n≤b.length):bc prog ae (.slice 22 x none (some i) (some m)) l (.vec 1 (b.take n) .none):=by
 subst hn
 obtain ⟨inf,i1,i2,_,_⟩:=cO
 refine ⟨?_⟩
 have h1:ble z.toNat b.length=true:=Nat.ble_eq_true_of_le he
 have h2:ble 0 z.toNat=true:=Nat.ble_eq_true_of_le (zero_le _)
 have h3:ble z.toNat z.toNat=true:=Nat.ble_eq_true_of_le (le_refl _)
 simp [bu,hx,hz,hm,jP,underlying22,i1,i2,fk,fj,h0,h1,h2,h3]
theorem jV {ro:Nat}{T T1:VT}{s:Operand}{es es2:Bs}{bn:Bool}{k n:Nat}(hs:cM T 1 (aP ae l s)=some (es,k,n,bn,T1))(hx:fP 1 (aP ae l x)=some es2)(hb:es.length+es2.length≤70368744177664):
  bb prog ae ro T (.call ⟨.builtin .append,#[s,x],#[22,22]⟩) l (.vec 1 (es++es2) (.tail k (n+es2.length))) {T1 with tails:=T1.tails.set k (n+es2.length,1,bn)}:=by
 obtain ⟨inf,i1,i2,i3,i4⟩:=cO
 have h:=eQ (inf:=inf) (P:=prog) (G:=ae) (ro:=ro) (T:=T) (T1:=T1) (t:=22) (tx:=22) (s:=s) (x:=x) (l:=l) (es:=es) (es2:=es2) (k:=k) (n:=n) (bn:=bn) underlying22 i1 i4 (by rw [i2];rfl) (by rw [i2];decide) (by kernel_rfl) (by rw [i2];exact hs) (by rw [i2];exact hx)
  (by rw [i3];omega)
 rw [i2] at h
 exact h
end
theorem NL {ro:Nat}(objs:List VO)(c:Bs)(hc:c.length≤32000000)(s x:Nat)(hne:beq s x=false):bb prog ae ro ⟨objs,[]⟩ (.call ⟨.builtin .append,#[.tmp s,.tmp x],#[22,22]⟩) [(s,.vec 1 [] .full),(x,.vec 1 c .none)] (.vec 1 c (.tail 0 c.length)) ⟨objs,[(c.length,1,false)]⟩:=by
 have h:=jV (ro:=ro) (T:=⟨objs,[]⟩) (T1:=⟨objs,[(0,1,false)]⟩) (s:=.tmp s) (x:=.tmp x) (l:= [(s,.vec 1 [] .full),(x,.vec 1 c .none)]) (es:= []) (es2:=c) (k:=0) (n:=0) (bn:=false)
  (by simp [aP,eO,cM]) (by simp [aP,eO,hne,fP]) (by simp only [length_nil];omega)
 simp only [nil_append,zero_add] at h
 exact h
theorem UX {b:Bs}(hb:IsB b):VCx prog ae 0 nS [.vec 1 b .none] ⟨[],[]⟩ λx T'=>x=.vec 1 b .none∧T'=⟨[],[]⟩:=by
 refine VCx.asVec (Q:=λT'=>T'=⟨[],[]⟩) (VCx.keepQ 0 0 (le_refl _) (le_refl _) ?_)
 cases b with
 |nil=>exact ak ac aa an ai (UL _) ⟨⟨.inl ⟨rfl,rfl⟩,rfl⟩,⟨.inr ⟨_,rfl⟩,rfl⟩⟩
 |cons r b=>
  refine ak ac aa an ai (UM r b _) ⟨NL [] (r::b) hb.small 5 6 rfl,.inr ⟨.none,?_⟩,rfl⟩
  have:=hb.ren (aA 0) (aA 0)
  simp only [TV.ren,Tok.ren]
  rw [show [r]++b=r::b from rfl,this];rfl
theorem ql:∀ro ys T K,nk ro ys T K→VCx prog ae ro nS ys T K:=by
 intro ro ys T K hw
 unfold nk at hw
 split at hw
 ·rename_i b tok
  obtain ⟨hb,hk⟩:=hw
  exact VCx.loosePure au (UX hb) (by simp [cj]) (by simp [ap,TV.ren,hb.ren,Tok.ren]) (λf h=>by simp only [TV.ren,hb.ren,Tok.ren]) hk
 ·exact hw.elim
theorem RG {b:Bs}(hb:IsB b):VCx prog ae 0 kJ [.vec 1 b .none] ⟨[],[]⟩ λx T'=>x=.ptr 0 0∧T'=⟨[aM b 0 0],[]⟩:=
 ak ac aa (aL λp hp=>by obtain rfl:=mem_singleton.1 hp;exact ql) ai (UN b _) ⟨hb,rfl,rfl⟩
theorem vH:∀ro ys T K,nj ro ys T K→VCx prog ae ro kJ ys T K:=Kf au λ_ hb=>RG hb
def A5 (n:Int)(b:Bs)(a e:Int):VT:=⟨[aM (aG n b e) (bC n b e a) (aH n b e)],[]⟩
theorem RH (b:Bs)(a e n:Int):VCx prog ae 0 Ae [.ptr 0 0,.val (.int .i64 n)] ⟨[aM b a e],[]⟩ λx T'=>x=.vec 1 (cm n b e) .none∧T'=A5 n b a e:=by
 refine VCx.asVec (Q:=λT'=>T'=A5 n b a e) (ak ac aa an ai (UO b a e n n.toNat _) ?_)
 by_cases he:e=0
 ·subst he
  have he:(0:Int)=0:=rfl
  refine aO (by rw [gH,decide_eq_true he];rfl) ?_
  by_cases hn:n<0
  ·have hk:cR n b 0=false:=by simp only [cR,Bool.and_eq_false_iff,decide_eq_false_iff_not];omega
   refine aS (decide_eq_true hn) ⟨.inl ⟨rfl,by simp only [cm,hk,cond_false]⟩,?_⟩
   simp only [A5,aG,bC,aH,hk,cond_false,decide_true,decide_eq_true hn,cond_true];rfl
  ·refine aO (decide_eq_false hn) ?_
   by_cases hl:n≤b.length
   ·have hk:cR n b 0=true:=by simp only [cR,decide_true,decide_eq_true hl,decide_eq_true (show 0≤n by omega)];rfl
    have h1:n.toNat≤b.length:=by omega
    refine aO (decide_eq_false (by omega)) ⟨Kh rfl rfl rfl (by omega) rfl h1,A4 rfl rfl (by omega) rfl h1,.inr ⟨.none,by simp only [cm,hk,cond_true]⟩,?_⟩
    simp only [A5,aG,bC,aH,hk,decide_true,decide_eq_false hn,decide_eq_true hl,cond_true,cond_false];rfl
   ·have hk:cR n b 0=false:=by simp only [cR,Bool.and_eq_false_iff,decide_eq_false_iff_not];omega
    refine aS (decide_eq_true (by omega)) ⟨.inl ⟨rfl,by simp only [cm,hk,cond_false]⟩,?_⟩
    simp only [A5,aG,bC,aH,hk,decide_true,decide_eq_false hn,decide_eq_false hl,cond_false,cond_true];rfl
 ·have hk:cR n b e=false:=by simp only [cR,Bool.and_eq_false_iff,decide_eq_false_iff_not];omega
  refine aS (by rw [gH,decide_eq_false he];rfl) ⟨.inl ⟨rfl,by simp only [cm,hk,cond_false]⟩,?_⟩
  simp only [A5,aG,bC,aH,hk,decide_eq_false he,cond_false];rfl
theorem Ag:∀ro ys T K,Iu ro ys T K→VCx prog ae ro Ae ys T K:=Kd au λb a e n _=>RH b a e n
theorem RI {c:Bs}{j:Nat}{r:List TV}(h:c[j]?=some r):fw (c.take (j+1))=fw (c.take j)*256+fZ r:=by
 rw [List.take_add_one,h];exact RB _ _
theorem Zc {c:Bs}(h:IsB c){j:Nat}(hj:j<8):0≤fw (c.take j)∧(j<8→fw (c.take j)<72057594037927936):=by
 obtain ⟨⟨l,hl,hz⟩,_⟩:=h.take j
 have hlen:l.length≤7:=by
  have:=congrArg length hl
  simp only [bV,length_map,length_take] at this
  omega
 rw [hl]
 obtain ⟨h1,h2⟩:=tZ hz
 refine ⟨h1,λ_=>Int.lt_of_lt_of_le h2 ?_⟩
 have h3:(256:Int)^l.length≤256^7:=by
  exact_mod_cast Nat.pow_le_pow_right (by decide:0<256) hlen
 exact h3
theorem Ki (c:Bs)(hc:IsB c)(h8:c.length≤8)(K:KX)(hK:K .normal (aQ 23 DD (DE c (fw c) c.length)) ⟨[],[]⟩ []):VWx prog ae none 0 (aD prog nG 0) (aQ 23 DD (DE c 0 0)) ⟨[],[]⟩ [] K:=by
 let sl:Nat→List TV:=λj=>DE c (fw (c.take j)) j
 let Post:Exit→List TV→VT→Prop:=λe vs T=>e=.normal∧vs=sl c.length∧T=⟨[],[]⟩
 refine dO (f:=nG) (id:=0) (by kernel_rfl) 23 DD (λj=>c.length-j) sl (λ_=>⟨[],[]⟩) (λj=>j≤c.length) 0 0 (λ_ _=>⟨le_refl _,le_refl _⟩)
  Post (λj hj=> ?_) 0 (zero_le _) K (λe vs T ⟨h1,h2,h3⟩=> ?_)
 ·by_cases hlt:j<c.length
  ·have hs:c[j]?=some c[j]:=getElem?_eq_getElem hlt
   generalize c[j]=r at hs
   obtain ⟨z,rfl,hz0,hz1⟩:=hc.at hs
   have hw:=Hv j (by omega)
   obtain ⟨hb0,hb1⟩:=Zc hc (j:=j) (by omega)
   have hor:=cH hb0 (hb1 (by omega)) hz0 hz1
   refine bF ac aa an ai (Gb c (fw (c.take j)) z j _) ?_
   refine aS (decide_eq_true (by omega)) ⟨RF rfl rfl (Int.natCast_nonneg _) (by rw [toNat_natCast];exact hs),rfl,rfl,j+1,hlt,by simp only;omega,.inr ⟨rfl,?_⟩⟩
   rw [hor,hw]
   simp only [ap,TV.ren,hc.ren,Tok.ren]
   simp only [sl,DE,RI hs,fZ,bT]
  ·obtain rfl:j=c.length:=by omega
   refine bF ac aa an ai (Gb c (fw (c.take c.length)) 0 c.length _) ?_
   exact aO (decide_eq_false (by omega)) ⟨rfl,rfl,rfl,rfl,rfl⟩
 ·subst h1 h2 h3
  simp only [sl,List.take_length]
  exact hK
theorem NM (c:Bs)(hc:IsB c)(h8:c.length≤8):dd prog ae (geL c (fw c) (aD prog nG 0)):=bA λp hp=>by
 obtain rfl:=mem_singleton.1 hp
 exact b9 λK hK=>Ki c hc h8 K hK
theorem RJ {b:Bs}(hb:IsB b){n:Int}(hn:wx n)(hl:wy n b):VCx prog ae 0 nG [.vec 1 b .none,.val (.int .i64 n)] ⟨[],[]⟩ λx T'=>x=.val (.int .u64 (de n b))∧T'=⟨[],[]⟩:=by
 obtain ⟨h0,h8⟩:=hn
 have h1:n.toNat≤b.length:=by unfold wy at hl;omega
 refine ak ac aa an (NM (b.take n.toNat) (hb.take _) (by rw [length_take];omega)) (UP b (b.take n.toNat) n (fw (b.take n.toNat)) _) ?_
 exact ⟨qk rfl rfl h0 rfl h1,rfl,⟨rfl,rfl,rfl,trivial,rfl,rfl,rfl⟩,rfl,rfl⟩
theorem Gc:∀ro ys T K,Iv ro ys T K→VCx prog ae ro nG ys T K:=by
 intro ro ys T K hw
 unfold Iv at hw
 split at hw
 ·rename_i b tok n
  obtain ⟨⟨hb,hn,hl⟩,hk⟩:=hw
  exact VCx.loosePure au (RJ hb hn hl) (by simp [cj]) (by simp [ap,TV.ren,hb.ren,Tok.ren]) (λf h=>rfl) hk
 ·exact hw.elim
theorem RK {b:Bs}(hb:IsB b)(a e:Int){n:Int}(hn:wx n):VCx prog ae 0 xh [.ptr 0 0,.val (.int .i64 n)] ⟨[aM b a e],[]⟩ λx T'=>x=.val (.int .u64 (nQ n b e))∧T'=A5 n b a e:=by
 refine ak ac aa (aL λp hp=>by rcases mem_cons.1 hp with rfl | hp;exact Ag;obtain rfl:=mem_singleton.1 hp;exact Gc) ai (UQ b a e n _) ⟨⟨rfl,hb⟩,?_⟩
 by_cases h:((cm n b e).length:Int)<n
 ·exact aS (decide_eq_true h) ⟨by rw [Ux h],rfl⟩
 ·exact aO (decide_eq_false h) ⟨⟨iI hb,hn,by unfold wy;omega⟩,by rw [Uw hn.1 (by omega)],rfl⟩
theorem RL:∀ro ys T K,Af ro ys T K→VCx prog ae ro xh ys T K:=by
 intro ro ys T K hw
 unfold Af at hw
 split at hw
 ·rename_i k n
  split at hw
  ·rename_i b a e ho
   obtain ⟨⟨hro,hb,hn⟩,hk⟩:=hw
   refine VCx.at1 (Q:=λx o' l'=>x=.val (.int .u64 (nQ n b e))∧o'=aM (aG n b e) (bC n b e a) (aH n b e)∧l'= []) au (le_of_ble_eq_true hro) ho rfl (bH hb a e _ _) (ys1:= [.ptr 0 0,.val (.int .i64 n)]) (by simp [ap,TV.ren,aU]) ((RK hb a e hn).mono λx T' ⟨h1,h2⟩=>⟨_,_,h2,h1,rfl,rfl⟩) ?_
   rintro x o' l' ⟨rfl,rfl,rfl⟩
   rw [bH (aK hb)]
   simpa [TV.ren] using hk
  ·exact hw.elim
 ·exact hw.elim
theorem DF {f:FuncId}{kind:IntKind}{n:Nat}(hn:wx n)(hw:∀z:Int,0≤z→z<256^n→kind.wrap z=z)
  (h:∀(b:Bs) (a e:Int) (Q:TV→VT→Prop),IsB b→Q (.val (.int kind (kind.wrap (nQ n b e)))) (A5 n b a e)→VCx prog ae 0 f [.ptr 0 0] ⟨[aM b a e],[]⟩ Q):
  ∀ro ys T K,ma kind n ro ys T K→VCx prog ae ro f ys T K:=Uy au λb a e hb=>by
 obtain ⟨h1,h2⟩:=Dv (n:=n) hb e
 exact h b a e _ hb ⟨by rw [hw _ h1 h2,Du],rfl⟩
theorem DG:bf prog ae (aF [(xh,Af)]):=aL λp hp=>by obtain rfl:=mem_singleton.1 hp;exact RL
theorem rt:∀ro ys T K,ma .i64 1 ro ys T K→VCx prog ae ro i7 ys T K:=
 DF ⟨by decide,by decide⟩ (λz h0 h1=>by simp only [wrap,IntKind.bits,signed];simp;omega) λb a e _ hb hq=>ak ac aa DG ai (UW b a e _) ⟨⟨rfl,hb,⟨by decide,by decide⟩⟩,hq⟩
theorem vI:∀ro ys T K,ma .i64 2 ro ys T K→VCx prog ae ro m8 ys T K:=
 DF ⟨by decide,by decide⟩ (λz h0 h1=>by simp only [wrap,IntKind.bits,signed];simp;omega) λb a e _ hb hq=>ak ac aa DG ai (RC b a e _) ⟨⟨rfl,hb,⟨by decide,by decide⟩⟩,hq⟩
theorem RM:∀ro ys T K,ma .u32 4 ro ys T K→VCx prog ae ro Ch ys T K:=
 DF ⟨by decide,by decide⟩ (λz h0 h1=>by simp only [wrap,IntKind.bits,signed];simp;omega) λb a e _ hb hq=>ak ac aa DG ai (RD b a e _) ⟨⟨rfl,hb,⟨by decide,by decide⟩⟩,hq⟩
theorem uc:∀ro ys T K,Dw ro ys T K→VCx prog ae ro kb ys T K:=Kd au λb a e n hb=>
 ak ac aa (aL λp hp=>by rcases mem_cons.1 hp with rfl | hp;exact Ag;obtain rfl:=mem_singleton.1 hp;exact ql) ai (UR b a e n _) ⟨⟨rfl,hb⟩,iI hb,rfl,rfl⟩
theorem UY:∀ro ys T K,yy ro ys T K→VCx prog ae ro Is ys T K:=Nw au λb a e n hb=>
 ak ac aa (aL λp hp=>by rcases mem_cons.1 hp with rfl | hp;exact Ag;obtain rfl:=mem_singleton.1 hp;exact vH) ai (US b a e n _) ⟨⟨rfl,hb⟩,iI hb,rfl,rfl⟩
theorem pj:∀ro ys T K,nR ro ys T K→VCx prog ae ro kK ys T K:=Uz au λb a e hb=>by
 refine ak ac aa an ai (UT b a e _) ?_
 by_cases he:e=0
 ·exact aO (by rw [gH,decide_eq_true he];rfl) ⟨by simp only [bw,decide_eq_true he,cond_true],rfl⟩
 ·exact aS (by rw [gH,decide_eq_false he];rfl) ⟨by simp only [bw,decide_eq_false he,cond_false],rfl⟩
theorem ru:∀ro ys T K,mc ro ys T K→VCx prog ae ro jy ys T K:=UA au λb a e _=>
 ak ac aa an ai (UU b a e _) ⟨rfl,rfl⟩
theorem UZ:∀ro ys T K,t5 ro ys T K→VCx prog ae ro It ys T K:=Ke au λb a e hb=>
 ak ac aa (aL λp hp=>by rcases mem_cons.1 hp with rfl | hp;exact pj;obtain rfl:=mem_singleton.1 hp;exact uc) ai (UV b a e _) ⟨⟨rfl,hb⟩,⟨rfl,hb⟩,rfl,rfl⟩
--bumped 32
theorem b6 {z:Int}(h0:-1000000000000000≤z)(h1:z≤1000000000000000):i64.wrap z=z:=by
 simp only [wrap,IntKind.bits,signed];simp;omega
def md (n:Int):Prop:=0≤n∧n≤32
def Gd (n:Int):Int:=4294967296-2^(32-n).toNat
def jc (a n:Int):Int:=wrap .u32 (toNat (ofInt (IntKind.bits .u32) a&&&ofInt (IntKind.bits .u32) (Gd n)):Nat)
abbrev cY:=157
abbrev lM:=140
abbrev lN:=116
abbrev pk:=83
def U0:aW:=λ_ ys T K=>match ys with
 |[.val (.int .i64 n)]=>md n∧K (.val (.int .u32 (Gd n))) T
 |_=>False
def A6:aW:=λ_ ys T K=>match ys with
 |[.agg [.val (.int .u32 a),.val (.int .i64 n)]]=>md n∧K (.agg [.val (.int .u32 (jc a n)),.val (.int .i64 n)]) T
 |_=>False
def A7 (l:Bs):aW:=λro ys T K=>match ys with
 |[.ptr k 0,.val (.int .i64 n)]=>match T.objs[k]? with
  |some (.cells [.val (.bool true),.vec 1 b .none,.val (.int .i64 a),.val (.int .i64 e)])=>((ble ro k=true∧IsB b)∧cm n b e=l)∧K (.vec 1 l .none) {T with objs:=T.objs.set k (aM (aG n b e) (bC n b e a) (aH n b e))}
  |_=>False
 |_=>False
theorem RN (Q:TV→VT→Prop):ar prog ae bt aT 300 aN 0 cY [.val (.int .i64 0)] am Q=
Q bD am:=by kernel_rfl
theorem RO (Q:TV→VT→Prop):ar prog ae bt aT 300 aN 0 cY [.val (.int .i64 1)] am Q=
Q (.val (.int .u32 2147483648)) am:=by kernel_rfl
theorem RP (Q:TV→VT→Prop):ar prog ae bt aT 300 aN 0 cY [.val (.int .i64 2)] am Q=
Q (.val (.int .u32 3221225472)) am:=by kernel_rfl
theorem RQ (Q:TV→VT→Prop):ar prog ae bt aT 300 aN 0 cY [.val (.int .i64 3)] am Q=
Q (.val (.int .u32 3758096384)) am:=by kernel_rfl
theorem RR (Q:TV→VT→Prop):ar prog ae bt aT 300 aN 0 cY [.val (.int .i64 4)] am Q=
Q (.val (.int .u32 4026531840)) am:=by kernel_rfl
theorem RS (Q:TV→VT→Prop):ar prog ae bt aT 300 aN 0 cY [.val (.int .i64 5)] am Q=
Q (.val (.int .u32 4160749568)) am:=by kernel_rfl
theorem RT (Q:TV→VT→Prop):ar prog ae bt aT 300 aN 0 cY [.val (.int .i64 6)] am Q=
Q (.val (.int .u32 4227858432)) am:=by kernel_rfl
theorem RU (Q:TV→VT→Prop):ar prog ae bt aT 300 aN 0 cY [.val (.int .i64 7)] am Q=
Q (.val (.int .u32 4261412864)) am:=by kernel_rfl
theorem RV (Q:TV→VT→Prop):ar prog ae bt aT 300 aN 0 cY [.val (.int .i64 8)] am Q=
Q (.val (.int .u32 4278190080)) am:=by kernel_rfl
theorem RX (Q:TV→VT→Prop):ar prog ae bt aT 300 aN 0 cY [.val (.int .i64 9)] am Q=
Q (.val (.int .u32 4286578688)) am:=by kernel_rfl
theorem NN (Q:TV→VT→Prop):ar prog ae bt aT 300 aN 0 cY [.val (.int .i64 10)] am Q=
Q (.val (.int .u32 4290772992)) am:=by kernel_rfl
theorem NO (Q:TV→VT→Prop):ar prog ae bt aT 300 aN 0 cY [.val (.int .i64 11)] am Q=
Q (.val (.int .u32 4292870144)) am:=by kernel_rfl
theorem NP (Q:TV→VT→Prop):ar prog ae bt aT 300 aN 0 cY [.val (.int .i64 12)] am Q=
Q (.val (.int .u32 4293918720)) am:=by kernel_rfl
theorem NQ (Q:TV→VT→Prop):ar prog ae bt aT 300 aN 0 cY [.val (.int .i64 13)] am Q=
Q (.val (.int .u32 4294443008)) am:=by kernel_rfl
theorem NR (Q:TV→VT→Prop):ar prog ae bt aT 300 aN 0 cY [.val (.int .i64 14)] am Q=
Q (.val (.int .u32 4294705152)) am:=by kernel_rfl
theorem NS (Q:TV→VT→Prop):ar prog ae bt aT 300 aN 0 cY [.val (.int .i64 15)] am Q=
Q (.val (.int .u32 4294836224)) am:=by kernel_rfl
theorem NT (Q:TV→VT→Prop):ar prog ae bt aT 300 aN 0 cY [.val (.int .i64 16)] am Q=
Q (.val (.int .u32 4294901760)) am:=by kernel_rfl
theorem NU (Q:TV→VT→Prop):ar prog ae bt aT 300 aN 0 cY [.val (.int .i64 17)] am Q=
Q (.val (.int .u32 4294934528)) am:=by kernel_rfl
theorem NV (Q:TV→VT→Prop):ar prog ae bt aT 300 aN 0 cY [.val (.int .i64 18)] am Q=
Q (.val (.int .u32 4294950912)) am:=by kernel_rfl
theorem NW (Q:TV→VT→Prop):ar prog ae bt aT 300 aN 0 cY [.val (.int .i64 19)] am Q=
Q (.val (.int .u32 4294959104)) am:=by kernel_rfl
theorem NX (Q:TV→VT→Prop):ar prog ae bt aT 300 aN 0 cY [.val (.int .i64 20)] am Q=
Q (.val (.int .u32 4294963200)) am:=by kernel_rfl
theorem NY (Q:TV→VT→Prop):ar prog ae bt aT 300 aN 0 cY [.val (.int .i64 21)] am Q=
Q (.val (.int .u32 4294965248)) am:=by kernel_rfl
theorem NZ (Q:TV→VT→Prop):ar prog ae bt aT 300 aN 0 cY [.val (.int .i64 22)] am Q=
Q (.val (.int .u32 4294966272)) am:=by kernel_rfl
theorem N1 (Q:TV→VT→Prop):ar prog ae bt aT 300 aN 0 cY [.val (.int .i64 23)] am Q=
Q (.val (.int .u32 4294966784)) am:=by kernel_rfl
theorem N2 (Q:TV→VT→Prop):ar prog ae bt aT 300 aN 0 cY [.val (.int .i64 24)] am Q=
Q (.val (.int .u32 4294967040)) am:=by kernel_rfl
theorem N3 (Q:TV→VT→Prop):ar prog ae bt aT 300 aN 0 cY [.val (.int .i64 25)] am Q=
Q (.val (.int .u32 4294967168)) am:=by kernel_rfl
theorem N4 (Q:TV→VT→Prop):ar prog ae bt aT 300 aN 0 cY [.val (.int .i64 26)] am Q=
Q (.val (.int .u32 4294967232)) am:=by kernel_rfl
theorem N5 (Q:TV→VT→Prop):ar prog ae bt aT 300 aN 0 cY [.val (.int .i64 27)] am Q=
Q (.val (.int .u32 4294967264)) am:=by kernel_rfl
theorem N6 (Q:TV→VT→Prop):ar prog ae bt aT 300 aN 0 cY [.val (.int .i64 28)] am Q=
Q (.val (.int .u32 4294967280)) am:=by kernel_rfl
theorem N7 (Q:TV→VT→Prop):ar prog ae bt aT 300 aN 0 cY [.val (.int .i64 29)] am Q=
Q (.val (.int .u32 4294967288)) am:=by kernel_rfl
theorem N8 (Q:TV→VT→Prop):ar prog ae bt aT 300 aN 0 cY [.val (.int .i64 30)] am Q=
Q (.val (.int .u32 4294967292)) am:=by kernel_rfl
theorem N9 (Q:TV→VT→Prop):ar prog ae bt aT 300 aN 0 cY [.val (.int .i64 31)] am Q=
Q (.val (.int .u32 4294967294)) am:=by kernel_rfl
theorem Oa (Q:TV→VT→Prop):ar prog ae bt aT 300 aN 0 cY [.val (.int .i64 32)] am Q=
Q (.val (.int .u32 4294967295)) am:=by kernel_rfl
theorem Kj (a n:Int)(Q:TV→VT→Prop):ar prog ae (aF [(cY,U0)]) (aZ [(999999,.dead,none)]) 300 aN 0 lM [.agg [.val (.int .u32 a),.val (.int .i64 n)]] am Q=
 (md (if (32:Int)<if (0:Int)>n then (0:Int) else n then (32:Int) else if (0:Int)>n then (0:Int) else n)∧
 Q (vE (wrap u32 (↑(toNat (ofInt (IntKind.bits u32) a&&&ofInt (IntKind.bits u32) (Gd (if (32:Int)<if (0:Int)>n then (0:Int) else n then (32:Int) else if (0:Int)>n then (0:Int) else n)))):Int)) (if (32:Int)<if (0:Int)>n then (0:Int) else n then (32:Int) else if (0:Int)>n then (0:Int) else n)) ⟨[(i6 a n),(i6 (wrap u32 (↑(toNat (ofInt (IntKind.bits u32) a&&&ofInt (IntKind.bits u32) (Gd (if (32:Int)<if (0:Int)>n then (0:Int) else n then (32:Int) else if (0:Int)>n then (0:Int) else n)))):Int)) (if (32:Int)<if (0:Int)>n then (0:Int) else n then (32:Int) else if (0:Int)>n then (0:Int) else n))],[]⟩):=by kernel_rfl
abbrev kL (b:Bs)(e:Int)(a:Int):TV:=(ah (bC (wrap i64 (tdiv (wrap i64 (wrap i64 (aR (1:Nat) b e+(8:Int))-(1:Int))) (8:Int))) (aG (↑(1:Nat):Int) b e) (aH (↑(1:Nat):Int) b e) (bC (↑(1:Nat):Int) b e a)))
abbrev kM (b:Bs)(e:Int):TV:=(av (aG (wrap i64 (tdiv (wrap i64 (wrap i64 (aR (1:Nat) b e+(8:Int))-(1:Int))) (8:Int))) (aG (↑(1:Nat):Int) b e) (aH (↑(1:Nat):Int) b e)))
abbrev kN (b:Bs)(e:Int):TV:=(ah (aH (wrap i64 (tdiv (wrap i64 (wrap i64 (aR (1:Nat) b e+(8:Int))-(1:Int))) (8:Int))) (aG (↑(1:Nat):Int) b e) (aH (↑(1:Nat):Int) b e)))
theorem RY (b:Bs)(a e:Int)(Q:TV→VT→Prop):ar prog ae (aF [(i7,ma .i64 1),(jy,mc),(kb,A7 []),(lM,A6)]) aT 300 aN 0 lN [.ptr 0 0] (cu (aM b a e)) Q=
 (((@Eq (Bool) true true)∧
 IsB (b))∧
 (((@Eq (Bool) true true)∧
 IsB (aG (↑(1:Nat):Int) b e))∧
 (bif ax neq (k6 (aH (↑(1:Nat):Int) b e) (0:Int))
 then Q iA ⟨[(.cells [aI,(av (aG (↑(1:Nat):Int) b e)),(ah (bC (↑(1:Nat):Int) b e a)),(ah (aH (↑(1:Nat):Int) b e))]),iz],[]⟩
 else (bif decide (aR (1:Nat) b e>(32:Int))
 then Q iA ⟨[(.cells [aI,(av (aG (↑(1:Nat):Int) b e)),(ah (bC (↑(1:Nat):Int) b e a)),(ah (aH (↑(1:Nat):Int) b e))]),iz],[]⟩
 else ((((@Eq (Bool) true true)∧
 IsB (aG (↑(1:Nat):Int) b e))∧
 (@Eq (Bs) (cm (wrap i64 (tdiv (wrap i64 (wrap i64 (aR (1:Nat) b e+(8:Int))-(1:Int))) (8:Int))) (aG (↑(1:Nat):Int) b e) (aH (↑(1:Nat):Int) b e)) []))∧
 (((@Eq (Bool) true true)∧
 IsB (aG (wrap i64 (tdiv (wrap i64 (wrap i64 (aR (1:Nat) b e+(8:Int))-(1:Int))) (8:Int))) (aG (↑(1:Nat):Int) b e) (aH (↑(1:Nat):Int) b e)))∧
 (bif ax neq (k6 (aH (wrap i64 (tdiv (wrap i64 (wrap i64 (aR (1:Nat) b e+(8:Int))-(1:Int))) (8:Int))) (aG (↑(1:Nat):Int) b e) (aH (↑(1:Nat):Int) b e)) (0:Int))
 then Q iA ⟨[(.cells [aI,(kM b e),(kL b e a),(kN b e)]),iz,PN],[]⟩
 else (md (aR (1:Nat) b e)∧
 Q (yD (jc
  (wrap u32
   (wrap u64
    (↑(toNat
      (ofInt (IntKind.bits u64)
        (wrap u64
         (wrap u64
           (↑(toNat
             (ofInt (IntKind.bits u64)
               (wrap u64
                (wrap u64
                  (↑(toNat
                    (ofInt (IntKind.bits u64)
                      (wrap u64
                       (wrap u64 (↑(toNat (ofInt (IntKind.bits u64) (wrap u64 ((0:Int)*(2:Int)^min (Int.toNat (8:Int)) (IntKind.bits u64))) ||| ofInt (IntKind.bits u64) (wrap u64 (0:Int)))):Int)*
                        (2:Int)^min (Int.toNat (8:Int)) (IntKind.bits u64))) |||
                     ofInt (IntKind.bits u64) (wrap u64 (0:Int)))):
                   Int)*
                 (2:Int)^min (Int.toNat (8:Int)) (IntKind.bits u64))) |||
              ofInt (IntKind.bits u64) (wrap u64 (0:Int)))):
            Int)*
          (2:Int)^min (Int.toNat (8:Int)) (IntKind.bits u64))) |||
       ofInt (IntKind.bits u64) (wrap u64 (0:Int)))):
     Int)))
  (aR (1:Nat) b e)) (aR (1:Nat) b e)) ⟨[(.cells [aI,(kM b e),(kL b e a),(kN b e)]),(i6 (jc
  (wrap u32
   (wrap u64
    (↑(toNat
      (ofInt (IntKind.bits u64)
        (wrap u64
         (wrap u64
           (↑(toNat
             (ofInt (IntKind.bits u64)
               (wrap u64
                (wrap u64
                  (↑(toNat
                    (ofInt (IntKind.bits u64)
                      (wrap u64
                       (wrap u64 (↑(toNat (ofInt (IntKind.bits u64) (wrap u64 ((0:Int)*(2:Int)^min (Int.toNat (8:Int)) (IntKind.bits u64))) ||| ofInt (IntKind.bits u64) (wrap u64 (0:Int)))):Int)*
                        (2:Int)^min (Int.toNat (8:Int)) (IntKind.bits u64))) |||
                     ofInt (IntKind.bits u64) (wrap u64 (0:Int)))):
                   Int)*
                 (2:Int)^min (Int.toNat (8:Int)) (IntKind.bits u64))) |||
              ofInt (IntKind.bits u64) (wrap u64 (0:Int)))):
            Int)*
          (2:Int)^min (Int.toNat (8:Int)) (IntKind.bits u64))) |||
       ofInt (IntKind.bits u64) (wrap u64 (0:Int)))):
     Int)))
  (aR (1:Nat) b e)) (aR (1:Nat) b e)),PN],[]⟩)))))))):=by kernel_rfl
theorem RZ (b:Bs)(a e:Int)(z0:Int)(Q:TV→VT→Prop):ar prog ae (aF [(i7,ma .i64 1),(jy,mc),(kb,A7 [bT z0]),(lM,A6)]) aT 300 aN 0 lN [.ptr 0 0] (cu (aM b a e)) Q=
 (((@Eq (Bool) true true)∧
 IsB (b))∧
 (((@Eq (Bool) true true)∧
 IsB (aG (↑(1:Nat):Int) b e))∧
 (bif ax neq (k6 (aH (↑(1:Nat):Int) b e) (0:Int))
 then Q iA ⟨[(.cells [aI,(av (aG (↑(1:Nat):Int) b e)),(ah (bC (↑(1:Nat):Int) b e a)),(ah (aH (↑(1:Nat):Int) b e))]),iz],[]⟩
 else (bif decide (aR (1:Nat) b e>(32:Int))
 then Q iA ⟨[(.cells [aI,(av (aG (↑(1:Nat):Int) b e)),(ah (bC (↑(1:Nat):Int) b e a)),(ah (aH (↑(1:Nat):Int) b e))]),iz],[]⟩
 else ((((@Eq (Bool) true true)∧
 IsB (aG (↑(1:Nat):Int) b e))∧
 (@Eq (Bs) (cm (wrap i64 (tdiv (wrap i64 (wrap i64 (aR (1:Nat) b e+(8:Int))-(1:Int))) (8:Int))) (aG (↑(1:Nat):Int) b e) (aH (↑(1:Nat):Int) b e)) [(gp z0)]))∧
 (((@Eq (Bool) true true)∧
 IsB (aG (wrap i64 (tdiv (wrap i64 (wrap i64 (aR (1:Nat) b e+(8:Int))-(1:Int))) (8:Int))) (aG (↑(1:Nat):Int) b e) (aH (↑(1:Nat):Int) b e)))∧
 (bif ax neq (k6 (aH (wrap i64 (tdiv (wrap i64 (wrap i64 (aR (1:Nat) b e+(8:Int))-(1:Int))) (8:Int))) (aG (↑(1:Nat):Int) b e) (aH (↑(1:Nat):Int) b e)) (0:Int))
 then Q iA ⟨[(.cells [aI,(kM b e),(kL b e a),(kN b e)]),iz,(PM z0)],[]⟩
 else (md (aR (1:Nat) b e)∧
 Q (yD (jc
  (wrap u32
   (wrap u64
    (↑(toNat
      (ofInt (IntKind.bits u64)
        (wrap u64
         (wrap u64
           (↑(toNat
             (ofInt (IntKind.bits u64)
               (wrap u64
                (wrap u64
                  (↑(toNat
                    (ofInt (IntKind.bits u64)
                      (wrap u64
                       (wrap u64 (↑(toNat (ofInt (IntKind.bits u64) (wrap u64 ((0:Int)*(2:Int)^min (Int.toNat (8:Int)) (IntKind.bits u64))) ||| ofInt (IntKind.bits u64) (wrap u64 z0))):Int)*(2:Int)^min (Int.toNat (8:Int)) (IntKind.bits u64))) |||
                     ofInt (IntKind.bits u64) (wrap u64 (0:Int)))):
                   Int)*
                 (2:Int)^min (Int.toNat (8:Int)) (IntKind.bits u64))) |||
              ofInt (IntKind.bits u64) (wrap u64 (0:Int)))):
            Int)*
          (2:Int)^min (Int.toNat (8:Int)) (IntKind.bits u64))) |||
       ofInt (IntKind.bits u64) (wrap u64 (0:Int)))):
     Int)))
  (aR (1:Nat) b e)) (aR (1:Nat) b e)) ⟨[(.cells [aI,(kM b e),(kL b e a),(kN b e)]),(i6 (jc
  (wrap u32
   (wrap u64
    (↑(toNat
      (ofInt (IntKind.bits u64)
        (wrap u64
         (wrap u64
           (↑(toNat
             (ofInt (IntKind.bits u64)
               (wrap u64
                (wrap u64
                  (↑(toNat
                    (ofInt (IntKind.bits u64)
                      (wrap u64
                       (wrap u64 (↑(toNat (ofInt (IntKind.bits u64) (wrap u64 ((0:Int)*(2:Int)^min (Int.toNat (8:Int)) (IntKind.bits u64))) ||| ofInt (IntKind.bits u64) (wrap u64 z0))):Int)*(2:Int)^min (Int.toNat (8:Int)) (IntKind.bits u64))) |||
                     ofInt (IntKind.bits u64) (wrap u64 (0:Int)))):
                   Int)*
                 (2:Int)^min (Int.toNat (8:Int)) (IntKind.bits u64))) |||
              ofInt (IntKind.bits u64) (wrap u64 (0:Int)))):
            Int)*
          (2:Int)^min (Int.toNat (8:Int)) (IntKind.bits u64))) |||
       ofInt (IntKind.bits u64) (wrap u64 (0:Int)))):
     Int)))
  (aR (1:Nat) b e)) (aR (1:Nat) b e)),(PM z0)],[]⟩)))))))):=by kernel_rfl
theorem R0 (b:Bs)(a e:Int)(z0 z1:Int)(Q:TV→VT→Prop):ar prog ae (aF [(i7,ma .i64 1),(jy,mc),(kb,A7 [bT z0,bT z1]),(lM,A6)]) aT 300 aN 0 lN [.ptr 0 0] (cu (aM b a e)) Q=
 (((@Eq (Bool) true true)∧
 IsB (b))∧
 (((@Eq (Bool) true true)∧
 IsB (aG (↑(1:Nat):Int) b e))∧
 (bif ax neq (k6 (aH (↑(1:Nat):Int) b e) (0:Int))
 then Q iA ⟨[(.cells [aI,(av (aG (↑(1:Nat):Int) b e)),(ah (bC (↑(1:Nat):Int) b e a)),(ah (aH (↑(1:Nat):Int) b e))]),iz],[]⟩
 else (bif decide (aR (1:Nat) b e>(32:Int))
 then Q iA ⟨[(.cells [aI,(av (aG (↑(1:Nat):Int) b e)),(ah (bC (↑(1:Nat):Int) b e a)),(ah (aH (↑(1:Nat):Int) b e))]),iz],[]⟩
 else ((((@Eq (Bool) true true)∧
 IsB (aG (↑(1:Nat):Int) b e))∧
 (@Eq (Bs) (cm (wrap i64 (tdiv (wrap i64 (wrap i64 (aR (1:Nat) b e+(8:Int))-(1:Int))) (8:Int))) (aG (↑(1:Nat):Int) b e) (aH (↑(1:Nat):Int) b e)) [(gp z0),(gp z1)]))∧
 (((@Eq (Bool) true true)∧
 IsB (aG (wrap i64 (tdiv (wrap i64 (wrap i64 (aR (1:Nat) b e+(8:Int))-(1:Int))) (8:Int))) (aG (↑(1:Nat):Int) b e) (aH (↑(1:Nat):Int) b e)))∧
 (bif ax neq (k6 (aH (wrap i64 (tdiv (wrap i64 (wrap i64 (aR (1:Nat) b e+(8:Int))-(1:Int))) (8:Int))) (aG (↑(1:Nat):Int) b e) (aH (↑(1:Nat):Int) b e)) (0:Int))
 then Q iA ⟨[(.cells [aI,(kM b e),(kL b e a),(kN b e)]),iz,(.cells [(bp z0),(bp z1),jU,jU])],[]⟩
 else (md (aR (1:Nat) b e)∧
 Q (yD (jc
  (wrap u32
   (wrap u64
    (↑(toNat
      (ofInt (IntKind.bits u64)
        (wrap u64
         (wrap u64
           (↑(toNat
             (ofInt (IntKind.bits u64)
               (wrap u64
                (wrap u64
                  (↑(toNat
                    (ofInt (IntKind.bits u64)
                      (wrap u64
                       (wrap u64 (↑(toNat (ofInt (IntKind.bits u64) (wrap u64 ((0:Int)*(2:Int)^min (Int.toNat (8:Int)) (IntKind.bits u64))) ||| ofInt (IntKind.bits u64) (wrap u64 z0))):Int)*(2:Int)^min (Int.toNat (8:Int)) (IntKind.bits u64))) |||
                     ofInt (IntKind.bits u64) (wrap u64 z1))):
                   Int)*
                 (2:Int)^min (Int.toNat (8:Int)) (IntKind.bits u64))) |||
              ofInt (IntKind.bits u64) (wrap u64 (0:Int)))):
            Int)*
          (2:Int)^min (Int.toNat (8:Int)) (IntKind.bits u64))) |||
       ofInt (IntKind.bits u64) (wrap u64 (0:Int)))):
     Int)))
  (aR (1:Nat) b e)) (aR (1:Nat) b e)) ⟨[(.cells [aI,(kM b e),(kL b e a),(kN b e)]),(i6 (jc
  (wrap u32
   (wrap u64
    (↑(toNat
      (ofInt (IntKind.bits u64)
        (wrap u64
         (wrap u64
           (↑(toNat
             (ofInt (IntKind.bits u64)
               (wrap u64
                (wrap u64
                  (↑(toNat
                    (ofInt (IntKind.bits u64)
                      (wrap u64
                       (wrap u64 (↑(toNat (ofInt (IntKind.bits u64) (wrap u64 ((0:Int)*(2:Int)^min (Int.toNat (8:Int)) (IntKind.bits u64))) ||| ofInt (IntKind.bits u64) (wrap u64 z0))):Int)*(2:Int)^min (Int.toNat (8:Int)) (IntKind.bits u64))) |||
                     ofInt (IntKind.bits u64) (wrap u64 z1))):
                   Int)*
                 (2:Int)^min (Int.toNat (8:Int)) (IntKind.bits u64))) |||
              ofInt (IntKind.bits u64) (wrap u64 (0:Int)))):
            Int)*
          (2:Int)^min (Int.toNat (8:Int)) (IntKind.bits u64))) |||
       ofInt (IntKind.bits u64) (wrap u64 (0:Int)))):
     Int)))
  (aR (1:Nat) b e)) (aR (1:Nat) b e)),(.cells [(bp z0),(bp z1),jU,jU])],[]⟩)))))))):=by kernel_rfl
theorem R1 (b:Bs)(a e:Int)(z0 z1 z2:Int)(Q:TV→VT→Prop):ar prog ae (aF [(i7,ma .i64 1),(jy,mc),(kb,A7 [bT z0,bT z1,bT z2]),(lM,A6)]) aT 300 aN 0 lN [.ptr 0 0] (cu (aM b a e)) Q=
 (((@Eq (Bool) true true)∧
 IsB (b))∧
 (((@Eq (Bool) true true)∧
 IsB (aG (↑(1:Nat):Int) b e))∧
 (bif ax neq (k6 (aH (↑(1:Nat):Int) b e) (0:Int))
 then Q iA ⟨[(.cells [aI,(av (aG (↑(1:Nat):Int) b e)),(ah (bC (↑(1:Nat):Int) b e a)),(ah (aH (↑(1:Nat):Int) b e))]),iz],[]⟩
 else (bif decide (aR (1:Nat) b e>(32:Int))
 then Q iA ⟨[(.cells [aI,(av (aG (↑(1:Nat):Int) b e)),(ah (bC (↑(1:Nat):Int) b e a)),(ah (aH (↑(1:Nat):Int) b e))]),iz],[]⟩
 else ((((@Eq (Bool) true true)∧
 IsB (aG (↑(1:Nat):Int) b e))∧
 (@Eq (Bs) (cm (wrap i64 (tdiv (wrap i64 (wrap i64 (aR (1:Nat) b e+(8:Int))-(1:Int))) (8:Int))) (aG (↑(1:Nat):Int) b e) (aH (↑(1:Nat):Int) b e)) [(gp z0),(gp z1),(gp z2)]))∧
 (((@Eq (Bool) true true)∧
 IsB (aG (wrap i64 (tdiv (wrap i64 (wrap i64 (aR (1:Nat) b e+(8:Int))-(1:Int))) (8:Int))) (aG (↑(1:Nat):Int) b e) (aH (↑(1:Nat):Int) b e)))∧
 (bif ax neq (k6 (aH (wrap i64 (tdiv (wrap i64 (wrap i64 (aR (1:Nat) b e+(8:Int))-(1:Int))) (8:Int))) (aG (↑(1:Nat):Int) b e) (aH (↑(1:Nat):Int) b e)) (0:Int))
 then Q iA ⟨[(.cells [aI,(kM b e),(kL b e a),(kN b e)]),iz,(.cells [(bp z0),(bp z1),(bp z2),jU])],[]⟩
 else (md (aR (1:Nat) b e)∧
 Q (yD (jc
  (wrap u32
   (wrap u64
    (↑(toNat
      (ofInt (IntKind.bits u64)
        (wrap u64
         (wrap u64
           (↑(toNat
             (ofInt (IntKind.bits u64)
               (wrap u64
                (wrap u64
                  (↑(toNat
                    (ofInt (IntKind.bits u64)
                      (wrap u64
                       (wrap u64 (↑(toNat (ofInt (IntKind.bits u64) (wrap u64 ((0:Int)*(2:Int)^min (Int.toNat (8:Int)) (IntKind.bits u64))) ||| ofInt (IntKind.bits u64) (wrap u64 z0))):Int)*(2:Int)^min (Int.toNat (8:Int)) (IntKind.bits u64))) |||
                     ofInt (IntKind.bits u64) (wrap u64 z1))):
                   Int)*
                 (2:Int)^min (Int.toNat (8:Int)) (IntKind.bits u64))) |||
              ofInt (IntKind.bits u64) (wrap u64 z2))):
            Int)*
          (2:Int)^min (Int.toNat (8:Int)) (IntKind.bits u64))) |||
       ofInt (IntKind.bits u64) (wrap u64 (0:Int)))):
     Int)))
  (aR (1:Nat) b e)) (aR (1:Nat) b e)) ⟨[(.cells [aI,(kM b e),(kL b e a),(kN b e)]),(i6 (jc
  (wrap u32
   (wrap u64
    (↑(toNat
      (ofInt (IntKind.bits u64)
        (wrap u64
         (wrap u64
           (↑(toNat
             (ofInt (IntKind.bits u64)
               (wrap u64
                (wrap u64
                  (↑(toNat
                    (ofInt (IntKind.bits u64)
                      (wrap u64
                       (wrap u64 (↑(toNat (ofInt (IntKind.bits u64) (wrap u64 ((0:Int)*(2:Int)^min (Int.toNat (8:Int)) (IntKind.bits u64))) ||| ofInt (IntKind.bits u64) (wrap u64 z0))):Int)*(2:Int)^min (Int.toNat (8:Int)) (IntKind.bits u64))) |||
                     ofInt (IntKind.bits u64) (wrap u64 z1))):
                   Int)*
                 (2:Int)^min (Int.toNat (8:Int)) (IntKind.bits u64))) |||
              ofInt (IntKind.bits u64) (wrap u64 z2))):
            Int)*
          (2:Int)^min (Int.toNat (8:Int)) (IntKind.bits u64))) |||
       ofInt (IntKind.bits u64) (wrap u64 (0:Int)))):
     Int)))
  (aR (1:Nat) b e)) (aR (1:Nat) b e)),(.cells [(bp z0),(bp z1),(bp z2),jU])],[]⟩)))))))):=by kernel_rfl
theorem R2 (b:Bs)(a e:Int)(z0 z1 z2 z3:Int)(Q:TV→VT→Prop):ar prog ae (aF [(i7,ma .i64 1),(jy,mc),(kb,A7 [bT z0,bT z1,bT z2,bT z3]),(lM,A6)]) aT 300 aN 0 lN [.ptr 0 0] (cu (aM b a e)) Q=
 (((@Eq (Bool) true true)∧
 IsB (b))∧
 (((@Eq (Bool) true true)∧
 IsB (aG (↑(1:Nat):Int) b e))∧
 (bif ax neq (k6 (aH (↑(1:Nat):Int) b e) (0:Int))
 then Q iA ⟨[(.cells [aI,(av (aG (↑(1:Nat):Int) b e)),(ah (bC (↑(1:Nat):Int) b e a)),(ah (aH (↑(1:Nat):Int) b e))]),iz],[]⟩
 else (bif decide (aR (1:Nat) b e>(32:Int))
 then Q iA ⟨[(.cells [aI,(av (aG (↑(1:Nat):Int) b e)),(ah (bC (↑(1:Nat):Int) b e a)),(ah (aH (↑(1:Nat):Int) b e))]),iz],[]⟩
 else ((((@Eq (Bool) true true)∧
 IsB (aG (↑(1:Nat):Int) b e))∧
 (@Eq (Bs) (cm (wrap i64 (tdiv (wrap i64 (wrap i64 (aR (1:Nat) b e+(8:Int))-(1:Int))) (8:Int))) (aG (↑(1:Nat):Int) b e) (aH (↑(1:Nat):Int) b e)) [(gp z0),(gp z1),(gp z2),(gp z3)]))∧
 (((@Eq (Bool) true true)∧
 IsB (aG (wrap i64 (tdiv (wrap i64 (wrap i64 (aR (1:Nat) b e+(8:Int))-(1:Int))) (8:Int))) (aG (↑(1:Nat):Int) b e) (aH (↑(1:Nat):Int) b e)))∧
 (bif ax neq (k6 (aH (wrap i64 (tdiv (wrap i64 (wrap i64 (aR (1:Nat) b e+(8:Int))-(1:Int))) (8:Int))) (aG (↑(1:Nat):Int) b e) (aH (↑(1:Nat):Int) b e)) (0:Int))
 then Q iA ⟨[(.cells [aI,(kM b e),(kL b e a),(kN b e)]),iz,(.cells [(bp z0),(bp z1),(bp z2),(bp z3)])],[]⟩
 else (md (aR (1:Nat) b e)∧
 Q (yD (jc
  (wrap u32
   (wrap u64
    (↑(toNat
      (ofInt (IntKind.bits u64)
        (wrap u64
         (wrap u64
           (↑(toNat
             (ofInt (IntKind.bits u64)
               (wrap u64
                (wrap u64
                  (↑(toNat
                    (ofInt (IntKind.bits u64)
                      (wrap u64
                       (wrap u64 (↑(toNat (ofInt (IntKind.bits u64) (wrap u64 ((0:Int)*(2:Int)^min (Int.toNat (8:Int)) (IntKind.bits u64))) ||| ofInt (IntKind.bits u64) (wrap u64 z0))):Int)*(2:Int)^min (Int.toNat (8:Int)) (IntKind.bits u64))) |||
                     ofInt (IntKind.bits u64) (wrap u64 z1))):
                   Int)*
                 (2:Int)^min (Int.toNat (8:Int)) (IntKind.bits u64))) |||
              ofInt (IntKind.bits u64) (wrap u64 z2))):
            Int)*
          (2:Int)^min (Int.toNat (8:Int)) (IntKind.bits u64))) |||
       ofInt (IntKind.bits u64) (wrap u64 z3))):
     Int)))
  (aR (1:Nat) b e)) (aR (1:Nat) b e)) ⟨[(.cells [aI,(kM b e),(kL b e a),(kN b e)]),(i6 (jc
  (wrap u32
   (wrap u64
    (↑(toNat
      (ofInt (IntKind.bits u64)
        (wrap u64
         (wrap u64
           (↑(toNat
             (ofInt (IntKind.bits u64)
               (wrap u64
                (wrap u64
                  (↑(toNat
                    (ofInt (IntKind.bits u64)
                      (wrap u64
                       (wrap u64 (↑(toNat (ofInt (IntKind.bits u64) (wrap u64 ((0:Int)*(2:Int)^min (Int.toNat (8:Int)) (IntKind.bits u64))) ||| ofInt (IntKind.bits u64) (wrap u64 z0))):Int)*(2:Int)^min (Int.toNat (8:Int)) (IntKind.bits u64))) |||
                     ofInt (IntKind.bits u64) (wrap u64 z1))):
                   Int)*
                 (2:Int)^min (Int.toNat (8:Int)) (IntKind.bits u64))) |||
              ofInt (IntKind.bits u64) (wrap u64 z2))):
            Int)*
          (2:Int)^min (Int.toNat (8:Int)) (IntKind.bits u64))) |||
       ofInt (IntKind.bits u64) (wrap u64 z3))):
     Int)))
  (aR (1:Nat) b e)) (aR (1:Nat) b e)),(.cells [(bp z0),(bp z1),(bp z2),(bp z3)])],[]⟩)))))))):=by kernel_rfl
theorem Kk {n:Int}(h:md n):n=0∨n=1∨n=2∨n=3∨n=4∨n=5∨n=6∨n=7∨n=8∨n=9∨n=10∨n=11∨n=12∨n=13∨n=14∨n=15∨n=16∨n=17∨n=18∨n=19∨n=20∨n=21∨n=22∨n=23∨n=24∨n=25∨n=26∨n=27∨n=28∨n=29∨n=30∨n=31∨n=32:=by
 obtain ⟨h0,h1⟩:=h;omega
theorem R3 {n:Int}(h:md n):VCx prog ae 0 cY [.val (.int .i64 n)] ⟨[],[]⟩ λx T'=>x=.val (.int .u32 (Gd n))∧T'=⟨[],[]⟩:=by
 rcases Kk h with rfl | rfl | rfl | rfl | rfl | rfl | rfl | rfl | rfl | rfl | rfl | rfl | rfl | rfl | rfl | rfl | rfl | rfl | rfl | rfl | rfl | rfl | rfl | rfl | rfl | rfl | rfl | rfl | rfl | rfl | rfl | rfl | rfl
 ·exact ak ac aa an ai (RN _) ⟨rfl,rfl⟩
 ·exact ak ac aa an ai (RO _) ⟨rfl,rfl⟩
 ·exact ak ac aa an ai (RP _) ⟨rfl,rfl⟩
 ·exact ak ac aa an ai (RQ _) ⟨rfl,rfl⟩
 ·exact ak ac aa an ai (RR _) ⟨rfl,rfl⟩
 ·exact ak ac aa an ai (RS _) ⟨rfl,rfl⟩
 ·exact ak ac aa an ai (RT _) ⟨rfl,rfl⟩
 ·exact ak ac aa an ai (RU _) ⟨rfl,rfl⟩
 ·exact ak ac aa an ai (RV _) ⟨rfl,rfl⟩
 ·exact ak ac aa an ai (RX _) ⟨rfl,rfl⟩
 ·exact ak ac aa an ai (NN _) ⟨rfl,rfl⟩
 ·exact ak ac aa an ai (NO _) ⟨rfl,rfl⟩
 ·exact ak ac aa an ai (NP _) ⟨rfl,rfl⟩
 ·exact ak ac aa an ai (NQ _) ⟨rfl,rfl⟩
 ·exact ak ac aa an ai (NR _) ⟨rfl,rfl⟩
 ·exact ak ac aa an ai (NS _) ⟨rfl,rfl⟩
 ·exact ak ac aa an ai (NT _) ⟨rfl,rfl⟩
 ·exact ak ac aa an ai (NU _) ⟨rfl,rfl⟩
 ·exact ak ac aa an ai (NV _) ⟨rfl,rfl⟩
 ·exact ak ac aa an ai (NW _) ⟨rfl,rfl⟩
 ·exact ak ac aa an ai (NX _) ⟨rfl,rfl⟩
 ·exact ak ac aa an ai (NY _) ⟨rfl,rfl⟩
 ·exact ak ac aa an ai (NZ _) ⟨rfl,rfl⟩
 ·exact ak ac aa an ai (N1 _) ⟨rfl,rfl⟩
 ·exact ak ac aa an ai (N2 _) ⟨rfl,rfl⟩
 ·exact ak ac aa an ai (N3 _) ⟨rfl,rfl⟩
 ·exact ak ac aa an ai (N4 _) ⟨rfl,rfl⟩
 ·exact ak ac aa an ai (N5 _) ⟨rfl,rfl⟩
 ·exact ak ac aa an ai (N6 _) ⟨rfl,rfl⟩
 ·exact ak ac aa an ai (N7 _) ⟨rfl,rfl⟩
 ·exact ak ac aa an ai (N8 _) ⟨rfl,rfl⟩
 ·exact ak ac aa an ai (N9 _) ⟨rfl,rfl⟩
 ·exact ak ac aa an ai (Oa _) ⟨rfl,rfl⟩
theorem Ge:∀ro ys T K,U0 ro ys T K→VCx prog ae ro cY ys T K:=by
 intro ro ys T K hw
 unfold U0 at hw
 split at hw
 ·exact VCx.liftPure au (R3 hw.1) rfl (λ_ _=>rfl) hw.2
 ·exact hw.elim
theorem Gf (a:Int){n:Int}(h:md n):VCx prog ae 0 lM [.agg [.val (.int .u32 a),.val (.int .i64 n)]] ⟨[],[]⟩ λx T'=>x=.agg [.val (.int .u32 (jc a n)),.val (.int .i64 n)]∧T'=⟨[],[]⟩:=by
 refine VCx.keepQ 0 0 (le_refl _) (le_refl _) (ak ac aa (aL λp hp=>by obtain rfl:=mem_singleton.1 hp;exact Ge) ai (Kj a n _) ?_)
 have e:(if (32:Int)<if (0:Int)>n then (0:Int) else n then (32:Int) else if (0:Int)>n then (0:Int) else n)=n:=by
  obtain ⟨h0,h1⟩:=h
  rw [if_neg (show ¬(0:Int)>n by omega),if_neg (by omega)]
 rw [e]
 exact ⟨h,rfl,rfl⟩
theorem R4:∀ro ys T K,A6 ro ys T K→VCx prog ae ro lM ys T K:=by
 intro ro ys T K hw
 unfold A6 at hw
 split at hw
 ·exact VCx.liftPure au (Gf _ hw.1) rfl (λ_ _=>rfl) hw.2
 ·exact hw.elim
theorem U1 (l:Bs):∀ro ys T K,A7 l ro ys T K→VCx prog ae ro kb ys T K:=by
 intro ro ys T K hw
 unfold A7 at hw
 split at hw
 ·split at hw
  ·rename_i ho
   obtain ⟨⟨h1,h2⟩,hk⟩:=hw
   subst h2
   refine uc _ _ _ _ ?_
   unfold Dw
   simp only [ho]
   exact ⟨h1,hk⟩
  ·exact hw.elim
 ·exact hw.elim
def gI (n:Int):Int:=tdiv (n+7) 8
def yE (l:Bs):Int:=fw (l++List.replicate (4-l.length) (bT 0))
def dj (b:Bs)(e:Int):Bool:=decide (aH 1 b e=0)&&decide (aR 1 b e≤32)
def pm (b:Bs)(e:Int):Bs:=cm (gI (aR 1 b e)) (aG 1 b e) (aH 1 b e)
def rx (b:Bs)(e:Int):Int:=aH (gI (aR 1 b e)) (aG 1 b e) (aH 1 b e)
def bO (b:Bs)(e:Int):Bool:=dj b e&&decide (rx b e=0)
def dP (b:Bs)(e:Int):Bs:=bif dj b e then aG (gI (aR 1 b e)) (aG 1 b e) (aH 1 b e) else aG 1 b e
def jd (b:Bs)(e:Int):Int:=bif dj b e then rx b e else aH 1 b e
def gZ (b:Bs)(e a:Int):Int:=bif dj b e then bC (gI (aR 1 b e)) (aG 1 b e) (aH 1 b e) (bC 1 b e a) else bC 1 b e a
def cV (b:Bs)(e:Int):Int:=bif bO b e then jc (yE (pm b e)) (aR 1 b e) else 0
def cW (b:Bs)(e:Int):Int:=bif bO b e then aR 1 b e else 0
def gJ (b:Bs)(e:Int):TV:=.tup [.agg [.val (.int .u32 (cV b e)),.val (.int .i64 (cW b e))],.val (.bool (bO b e))]
theorem gN {b:Bs}(hb:IsB b)(a e:Int)(l:List VO)(t:List (Nat × Nat × Bool)):VT.keep ⟨aM b a e::l,t⟩ 1 0=⟨[aM b a e],[]⟩:=by
 simp only [VT.keep,List.take_succ_cons,take_zero,map_cons,map_nil,bH hb]
theorem DH {b:Bs}{e:Int}(h:IsB b):IsB (dP b e):=by
 unfold dP;cases dj b e
 ·exact aK h
 ·exact aK (aK h)
theorem DI {b:Bs}(h:IsB b)(e:Int):0≤aR 1 b e∧aR 1 b e<256:=by
 rw [Du];exact Dv (n:=1) h e
theorem Kl {n:Int}(h0:0≤n)(h1:n<256):wrap .i64 (tdiv (wrap .i64 (wrap .i64 (n+(8:Int))-(1:Int))) (8:Int))=gI n:=by
 unfold gI
 rw [b6 (z:=n+8) (by omega) (by omega),b6 (z:=n+8-1) (by omega) (by omega),show n+8-1=n+7 by omega]
 have:=Int.tdiv_eq_ediv_of_nonneg (a:=n+7) (b:=8) (by omega)
 exact b6 (by omega) (by omega)
theorem ue (z0 z1 z2 z3:Int):yE [bT z0,bT z1,bT z2,bT z3]=((z0*256+z1)*256+z2)*256+z3∧yE [bT z0,bT z1,bT z2]=((z0*256+z1)*256+z2)*256∧yE [bT z0,bT z1]=((z0*256+z1)*256)*256∧yE [bT z0]=(z0*256*256)*256∧yE []=0:=by
 refine ⟨?_,?_,?_,?_,?_⟩<;>simp [yE,fw,fZ,bT,List.replicate]
theorem DJ (l:Bs):bf prog ae (aF [(i7,ma .i64 1),(jy,mc),(kb,A7 l),(lM,A6)]):=aL λp hp=>by
 rcases mem_cons.1 hp with rfl | hp;exact rt
 rcases mem_cons.1 hp with rfl | hp;exact ru
 rcases mem_cons.1 hp with rfl | hp;exact U1 l
 obtain rfl:=mem_singleton.1 hp;exact R4
def ik (b:Bs)(a e:Int):VT:=⟨[aM (dP b e) (gZ b e a) (jd b e)],[]⟩
theorem U2 {b:Bs}(hb:IsB b)(a e:Int)(hl:dj b e=true→pm b e= []):VCx prog ae 0 lN [.ptr 0 0] ⟨[aM b a e],[]⟩ λx T'=>x=gJ b e∧T'=ik b a e:=by
 obtain ⟨hn0,hn1⟩:=DI hb e
 refine VCx.keepQ 1 0 (le_refl _) (le_refl _) (ak ac aa (DJ []) ai (RY b a e _) ?_)
 refine ⟨⟨rfl,hb⟩,⟨rfl,aK hb⟩,?_⟩
 by_cases h1:aH 1 b e=0
 ·refine aO (by rw [ep];exact congrArg Bool.not (decide_eq_true h1)) ?_
  by_cases h2:aR 1 b e≤32
  ·have hG:dj b e=true:=by unfold dj;rw [decide_eq_true h1,decide_eq_true h2];rfl
   have hL:=hl hG
   refine aO (decide_eq_false (by omega)) ?_
   try delta kL kM kN
   rw [Kl hn0 hn1]
   refine ⟨⟨⟨rfl,aK hb⟩,hL⟩,⟨rfl,aK (aK hb)⟩,?_⟩
   have eT:∀l:List VO,VT.keep ⟨aM (aG (gI (aR 1 b e)) (aG 1 b e) (aH 1 b e)) (bC (gI (aR 1 b e)) (aG 1 b e) (aH 1 b e) (bC 1 b e a)) (aH (gI (aR 1 b e)) (aG 1 b e) (aH 1 b e))::l,[]⟩ 1 0=ik b a e:=λl=>by
    rw [gN (aK (aK hb))];simp only [ik,dP,gZ,jd,rx,hG,cond_true]
   by_cases h3:rx b e=0
   ·have hO:bO b e=true:=by unfold bO;rw [hG,decide_eq_true h3];rfl
    refine aO (by rw [ep];exact congrArg Bool.not (decide_eq_true h3)) ⟨⟨hn0,h2⟩,?_,eT _⟩
    unfold gJ cV cW
    rw [hO]
    simp only [cond_true]
    refine congrArg (λy=>TV.tup [.agg [.val (.int .u32 (jc y (aR 1 b e))),.val (.int .i64 (aR 1 b e))],.val (.bool true)]) ?_
    rw [hL]
    have ha:=ue 0 0 0 0
    rw [cH (n:=0) (z:=0) (by omega) (by omega) (by omega) (by omega)]
    rw [cH (n:=(0*256+0)) (z:=0) (by omega) (by omega) (by omega) (by omega)]
    rw [cH (n:=((0*256+0)*256+0)) (z:=0) (by omega) (by omega) (by omega) (by omega)]
    rw [cH (n:=(((0*256+0)*256+0)*256+0)) (z:=0) (by omega) (by omega) (by omega) (by omega)]
    have hw64:wrap .u64 ((((0*256+0)*256+0)*256+0)*256+0)=((((0*256+0)*256+0)*256+0)*256+0):=by simp only [wrap,IntKind.bits,signed];simp<;>omega
    have hw32:wrap .u32 ((((0*256+0)*256+0)*256+0)*256+0)=((((0*256+0)*256+0)*256+0)*256+0):=by simp only [wrap,IntKind.bits,signed];simp<;>omega
    rw [ha.2.2.2.2]
    first | rw [hw64,hw32] | rw [hw32] | skip
    omega
   ·have hO:bO b e=false:=by unfold bO;rw [hG,decide_eq_false h3];rfl
    refine aS (by rw [ep];exact congrArg Bool.not (decide_eq_false h3)) ⟨?_,eT _⟩
    unfold gJ cV cW
    rw [hO];rfl
  ·have hG:dj b e=false:=by unfold dj;rw [decide_eq_false h2,Bool.and_false]
   have hO:bO b e=false:=by unfold bO;rw [hG];rfl
   refine aS (decide_eq_true (by omega)) ⟨?_,?_⟩
   ·unfold gJ cV cW
    rw [hO];rfl
   ·refine (gN (aK hb) _ _ _ _).trans ?_
    simp only [ik,dP,gZ,jd,hG,cond_false];rfl
 ·have hG:dj b e=false:=by unfold dj;rw [decide_eq_false h1,Bool.false_and]
  have hO:bO b e=false:=by unfold bO;rw [hG];rfl
  refine aS (by rw [ep];exact congrArg Bool.not (decide_eq_false h1)) ⟨?_,?_⟩
  ·unfold gJ cV cW
   rw [hO];rfl
  ·refine (gN (aK hb) _ _ _ _).trans ?_
   simp only [ik,dP,gZ,jd,hG,cond_false];rfl
theorem aa1 {b:Bs}(hb:IsB b)(a e:Int){z0:Int}(hz0:0≤z0∧z0<256)(hl:dj b e=true→pm b e= [bT z0]):VCx prog ae 0 lN [.ptr 0 0] ⟨[aM b a e],[]⟩ λx T'=>x=gJ b e∧T'=ik b a e:=by
 obtain ⟨hn0,hn1⟩:=DI hb e
 refine VCx.keepQ 1 0 (le_refl _) (le_refl _) (ak ac aa (DJ [bT z0]) ai (RZ b a e z0 _) ?_)
 refine ⟨⟨rfl,hb⟩,⟨rfl,aK hb⟩,?_⟩
 by_cases h1:aH 1 b e=0
 ·refine aO (by rw [ep];exact congrArg Bool.not (decide_eq_true h1)) ?_
  by_cases h2:aR 1 b e≤32
  ·have hG:dj b e=true:=by unfold dj;rw [decide_eq_true h1,decide_eq_true h2];rfl
   have hL:=hl hG
   refine aO (decide_eq_false (by omega)) ?_
   try delta kL kM kN
   rw [Kl hn0 hn1]
   refine ⟨⟨⟨rfl,aK hb⟩,hL⟩,⟨rfl,aK (aK hb)⟩,?_⟩
   have eT:∀l:List VO,VT.keep ⟨aM (aG (gI (aR 1 b e)) (aG 1 b e) (aH 1 b e)) (bC (gI (aR 1 b e)) (aG 1 b e) (aH 1 b e) (bC 1 b e a)) (aH (gI (aR 1 b e)) (aG 1 b e) (aH 1 b e))::l,[]⟩ 1 0=ik b a e:=λl=>by
    rw [gN (aK (aK hb))];simp only [ik,dP,gZ,jd,rx,hG,cond_true]
   by_cases h3:rx b e=0
   ·have hO:bO b e=true:=by unfold bO;rw [hG,decide_eq_true h3];rfl
    refine aO (by rw [ep];exact congrArg Bool.not (decide_eq_true h3)) ⟨⟨hn0,h2⟩,?_,eT _⟩
    unfold gJ cV cW
    rw [hO]
    simp only [cond_true]
    refine congrArg (λy=>TV.tup [.agg [.val (.int .u32 (jc y (aR 1 b e))),.val (.int .i64 (aR 1 b e))],.val (.bool true)]) ?_
    rw [hL]
    have ha:=ue z0 0 0 0
    rw [cH (n:=0) (z:=z0) (by omega) (by omega) (by omega) (by omega)]
    rw [cH (n:=(0*256+z0)) (z:=0) (by omega) (by omega) (by omega) (by omega)]
    rw [cH (n:=((0*256+z0)*256+0)) (z:=0) (by omega) (by omega) (by omega) (by omega)]
    rw [cH (n:=(((0*256+z0)*256+0)*256+0)) (z:=0) (by omega) (by omega) (by omega) (by omega)]
    have hw64:wrap .u64 ((((0*256+z0)*256+0)*256+0)*256+0)=((((0*256+z0)*256+0)*256+0)*256+0):=by simp only [wrap,IntKind.bits,signed];simp<;>omega
    have hw32:wrap .u32 ((((0*256+z0)*256+0)*256+0)*256+0)=((((0*256+z0)*256+0)*256+0)*256+0):=by simp only [wrap,IntKind.bits,signed];simp<;>omega
    rw [ha.2.2.2.1]
    first | rw [hw64,hw32] | rw [hw32] | skip
    omega
   ·have hO:bO b e=false:=by unfold bO;rw [hG,decide_eq_false h3];rfl
    refine aS (by rw [ep];exact congrArg Bool.not (decide_eq_false h3)) ⟨?_,eT _⟩
    unfold gJ cV cW
    rw [hO];rfl
  ·have hG:dj b e=false:=by unfold dj;rw [decide_eq_false h2,Bool.and_false]
   have hO:bO b e=false:=by unfold bO;rw [hG];rfl
   refine aS (decide_eq_true (by omega)) ⟨?_,?_⟩
   ·unfold gJ cV cW
    rw [hO];rfl
   ·refine (gN (aK hb) _ _ _ _).trans ?_
    simp only [ik,dP,gZ,jd,hG,cond_false];rfl
 ·have hG:dj b e=false:=by unfold dj;rw [decide_eq_false h1,Bool.false_and]
  have hO:bO b e=false:=by unfold bO;rw [hG];rfl
  refine aS (by rw [ep];exact congrArg Bool.not (decide_eq_false h1)) ⟨?_,?_⟩
  ·unfold gJ cV cW
   rw [hO];rfl
  ·refine (gN (aK hb) _ _ _ _).trans ?_
   simp only [ik,dP,gZ,jd,hG,cond_false];rfl
theorem aa2 {b:Bs}(hb:IsB b)(a e:Int){z0 z1:Int}(hz0:0≤z0∧z0<256)(hz1:0≤z1∧z1<256)(hl:dj b e=true→pm b e= [bT z0,bT z1]):VCx prog ae 0 lN [.ptr 0 0] ⟨[aM b a e],[]⟩ λx T'=>x=gJ b e∧T'=ik b a e:=by
 obtain ⟨hn0,hn1⟩:=DI hb e
 refine VCx.keepQ 1 0 (le_refl _) (le_refl _) (ak ac aa (DJ [bT z0,bT z1]) ai (R0 b a e z0 z1 _) ?_)
 refine ⟨⟨rfl,hb⟩,⟨rfl,aK hb⟩,?_⟩
 by_cases h1:aH 1 b e=0
 ·refine aO (by rw [ep];exact congrArg Bool.not (decide_eq_true h1)) ?_
  by_cases h2:aR 1 b e≤32
  ·have hG:dj b e=true:=by unfold dj;rw [decide_eq_true h1,decide_eq_true h2];rfl
   have hL:=hl hG
   refine aO (decide_eq_false (by omega)) ?_
   try delta kL kM kN
   rw [Kl hn0 hn1]
   refine ⟨⟨⟨rfl,aK hb⟩,hL⟩,⟨rfl,aK (aK hb)⟩,?_⟩
   have eT:∀l:List VO,VT.keep ⟨aM (aG (gI (aR 1 b e)) (aG 1 b e) (aH 1 b e)) (bC (gI (aR 1 b e)) (aG 1 b e) (aH 1 b e) (bC 1 b e a)) (aH (gI (aR 1 b e)) (aG 1 b e) (aH 1 b e))::l,[]⟩ 1 0=ik b a e:=λl=>by
    rw [gN (aK (aK hb))];simp only [ik,dP,gZ,jd,rx,hG,cond_true]
   by_cases h3:rx b e=0
   ·have hO:bO b e=true:=by unfold bO;rw [hG,decide_eq_true h3];rfl
    refine aO (by rw [ep];exact congrArg Bool.not (decide_eq_true h3)) ⟨⟨hn0,h2⟩,?_,eT _⟩
    unfold gJ cV cW
    rw [hO]
    simp only [cond_true]
    refine congrArg (λy=>TV.tup [.agg [.val (.int .u32 (jc y (aR 1 b e))),.val (.int .i64 (aR 1 b e))],.val (.bool true)]) ?_
    rw [hL]
    have ha:=ue z0 z1 0 0
    rw [cH (n:=0) (z:=z0) (by omega) (by omega) (by omega) (by omega)]
    rw [cH (n:=(0*256+z0)) (z:=z1) (by omega) (by omega) (by omega) (by omega)]
    rw [cH (n:=((0*256+z0)*256+z1)) (z:=0) (by omega) (by omega) (by omega) (by omega)]
    rw [cH (n:=(((0*256+z0)*256+z1)*256+0)) (z:=0) (by omega) (by omega) (by omega) (by omega)]
    have hw64:wrap .u64 ((((0*256+z0)*256+z1)*256+0)*256+0)=((((0*256+z0)*256+z1)*256+0)*256+0):=by simp only [wrap,IntKind.bits,signed];simp<;>omega
    have hw32:wrap .u32 ((((0*256+z0)*256+z1)*256+0)*256+0)=((((0*256+z0)*256+z1)*256+0)*256+0):=by simp only [wrap,IntKind.bits,signed];simp<;>omega
    rw [ha.2.2.1]
    first | rw [hw64,hw32] | rw [hw32] | skip
    omega
   ·have hO:bO b e=false:=by unfold bO;rw [hG,decide_eq_false h3];rfl
    refine aS (by rw [ep];exact congrArg Bool.not (decide_eq_false h3)) ⟨?_,eT _⟩
    unfold gJ cV cW
    rw [hO];rfl
  ·have hG:dj b e=false:=by unfold dj;rw [decide_eq_false h2,Bool.and_false]
   have hO:bO b e=false:=by unfold bO;rw [hG];rfl
   refine aS (decide_eq_true (by omega)) ⟨?_,?_⟩
   ·unfold gJ cV cW
    rw [hO];rfl
   ·refine (gN (aK hb) _ _ _ _).trans ?_
    simp only [ik,dP,gZ,jd,hG,cond_false];rfl
 ·have hG:dj b e=false:=by unfold dj;rw [decide_eq_false h1,Bool.false_and]
  have hO:bO b e=false:=by unfold bO;rw [hG];rfl
  refine aS (by rw [ep];exact congrArg Bool.not (decide_eq_false h1)) ⟨?_,?_⟩
  ·unfold gJ cV cW
   rw [hO];rfl
  ·refine (gN (aK hb) _ _ _ _).trans ?_
   simp only [ik,dP,gZ,jd,hG,cond_false];rfl
theorem aa3 {b:Bs}(hb:IsB b)(a e:Int){z0 z1 z2:Int}(hz0:0≤z0∧z0<256)(hz1:0≤z1∧z1<256)(hz2:0≤z2∧z2<256)(hl:dj b e=true→pm b e= [bT z0,bT z1,bT z2]):VCx prog ae 0 lN [.ptr 0 0] ⟨[aM b a e],[]⟩ λx T'=>x=gJ b e∧T'=ik b a e:=by
 obtain ⟨hn0,hn1⟩:=DI hb e
 refine VCx.keepQ 1 0 (le_refl _) (le_refl _) (ak ac aa (DJ [bT z0,bT z1,bT z2]) ai (R1 b a e z0 z1 z2 _) ?_)
 refine ⟨⟨rfl,hb⟩,⟨rfl,aK hb⟩,?_⟩
 by_cases h1:aH 1 b e=0
 ·refine aO (by rw [ep];exact congrArg Bool.not (decide_eq_true h1)) ?_
  by_cases h2:aR 1 b e≤32
  ·have hG:dj b e=true:=by unfold dj;rw [decide_eq_true h1,decide_eq_true h2];rfl
   have hL:=hl hG
   refine aO (decide_eq_false (by omega)) ?_
   try delta kL kM kN
   rw [Kl hn0 hn1]
   refine ⟨⟨⟨rfl,aK hb⟩,hL⟩,⟨rfl,aK (aK hb)⟩,?_⟩
   have eT:∀l:List VO,VT.keep ⟨aM (aG (gI (aR 1 b e)) (aG 1 b e) (aH 1 b e)) (bC (gI (aR 1 b e)) (aG 1 b e) (aH 1 b e) (bC 1 b e a)) (aH (gI (aR 1 b e)) (aG 1 b e) (aH 1 b e))::l,[]⟩ 1 0=ik b a e:=λl=>by
    rw [gN (aK (aK hb))];simp only [ik,dP,gZ,jd,rx,hG,cond_true]
   by_cases h3:rx b e=0
   ·have hO:bO b e=true:=by unfold bO;rw [hG,decide_eq_true h3];rfl
    refine aO (by rw [ep];exact congrArg Bool.not (decide_eq_true h3)) ⟨⟨hn0,h2⟩,?_,eT _⟩
    unfold gJ cV cW
    rw [hO]
    simp only [cond_true]
    refine congrArg (λy=>TV.tup [.agg [.val (.int .u32 (jc y (aR 1 b e))),.val (.int .i64 (aR 1 b e))],.val (.bool true)]) ?_
    rw [hL]
    have ha:=ue z0 z1 z2 0
    rw [cH (n:=0) (z:=z0) (by omega) (by omega) (by omega) (by omega)]
    rw [cH (n:=(0*256+z0)) (z:=z1) (by omega) (by omega) (by omega) (by omega)]
    rw [cH (n:=((0*256+z0)*256+z1)) (z:=z2) (by omega) (by omega) (by omega) (by omega)]
    rw [cH (n:=(((0*256+z0)*256+z1)*256+z2)) (z:=0) (by omega) (by omega) (by omega) (by omega)]
    have hw64:wrap .u64 ((((0*256+z0)*256+z1)*256+z2)*256+0)=((((0*256+z0)*256+z1)*256+z2)*256+0):=by simp only [wrap,IntKind.bits,signed];simp<;>omega
    have hw32:wrap .u32 ((((0*256+z0)*256+z1)*256+z2)*256+0)=((((0*256+z0)*256+z1)*256+z2)*256+0):=by simp only [wrap,IntKind.bits,signed];simp<;>omega
    rw [ha.2.1]
    first | rw [hw64,hw32] | rw [hw32] | skip
    omega
   ·have hO:bO b e=false:=by unfold bO;rw [hG,decide_eq_false h3];rfl
    refine aS (by rw [ep];exact congrArg Bool.not (decide_eq_false h3)) ⟨?_,eT _⟩
    unfold gJ cV cW
    rw [hO];rfl
  ·have hG:dj b e=false:=by unfold dj;rw [decide_eq_false h2,Bool.and_false]
   have hO:bO b e=false:=by unfold bO;rw [hG];rfl
   refine aS (decide_eq_true (by omega)) ⟨?_,?_⟩
   ·unfold gJ cV cW
    rw [hO];rfl
   ·refine (gN (aK hb) _ _ _ _).trans ?_
    simp only [ik,dP,gZ,jd,hG,cond_false];rfl
 ·have hG:dj b e=false:=by unfold dj;rw [decide_eq_false h1,Bool.false_and]
  have hO:bO b e=false:=by unfold bO;rw [hG];rfl
  refine aS (by rw [ep];exact congrArg Bool.not (decide_eq_false h1)) ⟨?_,?_⟩
  ·unfold gJ cV cW
   rw [hO];rfl
  ·refine (gN (aK hb) _ _ _ _).trans ?_
   simp only [ik,dP,gZ,jd,hG,cond_false];rfl
theorem aa4 {b:Bs}(hb:IsB b)(a e:Int){z0 z1 z2 z3:Int}(hz0:0≤z0∧z0<256)(hz1:0≤z1∧z1<256)(hz2:0≤z2∧z2<256)(hz3:0≤z3∧z3<256)(hl:dj b e=true→pm b e= [bT z0,bT z1,bT z2,bT z3]):VCx prog ae 0 lN [.ptr 0 0] ⟨[aM b a e],[]⟩ λx T'=>x=gJ b e∧T'=ik b a e:=by
 obtain ⟨hn0,hn1⟩:=DI hb e
 refine VCx.keepQ 1 0 (le_refl _) (le_refl _) (ak ac aa (DJ [bT z0,bT z1,bT z2,bT z3]) ai (R2 b a e z0 z1 z2 z3 _) ?_)
 refine ⟨⟨rfl,hb⟩,⟨rfl,aK hb⟩,?_⟩
 by_cases h1:aH 1 b e=0
 ·refine aO (by rw [ep];exact congrArg Bool.not (decide_eq_true h1)) ?_
  by_cases h2:aR 1 b e≤32
  ·have hG:dj b e=true:=by unfold dj;rw [decide_eq_true h1,decide_eq_true h2];rfl
   have hL:=hl hG
   refine aO (decide_eq_false (by omega)) ?_
   try delta kL kM kN
   rw [Kl hn0 hn1]
   refine ⟨⟨⟨rfl,aK hb⟩,hL⟩,⟨rfl,aK (aK hb)⟩,?_⟩
   have eT:∀l:List VO,VT.keep ⟨aM (aG (gI (aR 1 b e)) (aG 1 b e) (aH 1 b e)) (bC (gI (aR 1 b e)) (aG 1 b e) (aH 1 b e) (bC 1 b e a)) (aH (gI (aR 1 b e)) (aG 1 b e) (aH 1 b e))::l,[]⟩ 1 0=ik b a e:=λl=>by
    rw [gN (aK (aK hb))];simp only [ik,dP,gZ,jd,rx,hG,cond_true]
   by_cases h3:rx b e=0
   ·have hO:bO b e=true:=by unfold bO;rw [hG,decide_eq_true h3];rfl
    refine aO (by rw [ep];exact congrArg Bool.not (decide_eq_true h3)) ⟨⟨hn0,h2⟩,?_,eT _⟩
    unfold gJ cV cW
    rw [hO]
    simp only [cond_true]
    refine congrArg (λy=>TV.tup [.agg [.val (.int .u32 (jc y (aR 1 b e))),.val (.int .i64 (aR 1 b e))],.val (.bool true)]) ?_
    rw [hL]
    have ha:=ue z0 z1 z2 z3
    rw [cH (n:=0) (z:=z0) (by omega) (by omega) (by omega) (by omega)]
    rw [cH (n:=(0*256+z0)) (z:=z1) (by omega) (by omega) (by omega) (by omega)]
    rw [cH (n:=((0*256+z0)*256+z1)) (z:=z2) (by omega) (by omega) (by omega) (by omega)]
    rw [cH (n:=(((0*256+z0)*256+z1)*256+z2)) (z:=z3) (by omega) (by omega) (by omega) (by omega)]
    have hw64:wrap .u64 ((((0*256+z0)*256+z1)*256+z2)*256+z3)=((((0*256+z0)*256+z1)*256+z2)*256+z3):=by simp only [wrap,IntKind.bits,signed];simp<;>omega
    have hw32:wrap .u32 ((((0*256+z0)*256+z1)*256+z2)*256+z3)=((((0*256+z0)*256+z1)*256+z2)*256+z3):=by simp only [wrap,IntKind.bits,signed];simp<;>omega
    rw [ha.1]
    first | rw [hw64,hw32] | rw [hw32] | skip
    omega
   ·have hO:bO b e=false:=by unfold bO;rw [hG,decide_eq_false h3];rfl
    refine aS (by rw [ep];exact congrArg Bool.not (decide_eq_false h3)) ⟨?_,eT _⟩
    unfold gJ cV cW
    rw [hO];rfl
  ·have hG:dj b e=false:=by unfold dj;rw [decide_eq_false h2,Bool.and_false]
   have hO:bO b e=false:=by unfold bO;rw [hG];rfl
   refine aS (decide_eq_true (by omega)) ⟨?_,?_⟩
   ·unfold gJ cV cW
    rw [hO];rfl
   ·refine (gN (aK hb) _ _ _ _).trans ?_
    simp only [ik,dP,gZ,jd,hG,cond_false];rfl
 ·have hG:dj b e=false:=by unfold dj;rw [decide_eq_false h1,Bool.false_and]
  have hO:bO b e=false:=by unfold bO;rw [hG];rfl
  refine aS (by rw [ep];exact congrArg Bool.not (decide_eq_false h1)) ⟨?_,?_⟩
  ·unfold gJ cV cW
   rw [hO];rfl
  ·refine (gN (aK hb) _ _ _ _).trans ?_
   simp only [ik,dP,gZ,jd,hG,cond_false];rfl
theorem Km {b:Bs}(hb:IsB b)(e:Int):dj b e=false∨pm b e= []∨(∃z0,(0≤z0∧z0<256)∧pm b e= [bT z0])∨(∃z0 z1,(0≤z0∧z0<256)∧(0≤z1∧z1<256)∧pm b e= [bT z0,bT z1])∨(∃z0 z1 z2,(0≤z0∧z0<256)∧(0≤z1∧z1<256)∧(0≤z2∧z2<256)∧pm b e= [bT z0,bT z1,bT z2])∨
  ∃z0 z1 z2 z3,(0≤z0∧z0<256)∧(0≤z1∧z1<256)∧(0≤z2∧z2<256)∧(0≤z3∧z3<256)∧pm b e= [bT z0,bT z1,bT z2,bT z3]:=by
 obtain ⟨hn0,hn1⟩:=DI hb e
 by_cases hg:dj b e=true
 ·refine .inr ?_
  have h32:aR 1 b e≤32:=by
   simp only [dj,and_eq_true,decide_eq_true_eq] at hg;exact hg.2
  obtain ⟨⟨l,hl,hz⟩,_⟩:IsB (pm b e):=iI (aK hb)
  have hlen:l.length≤4:=by
   have h1:((pm b e).length:Int)=bif cR (gI (aR 1 b e)) (aG 1 b e) (aH 1 b e) then gI (aR 1 b e) else 0:=vz
   have h2:gI (aR 1 b e)≤4:=by
    unfold gI
    have:=Int.tdiv_eq_ediv_of_nonneg (a:=aR 1 b e+7) (b:=8) (by omega)
    omega
   have h3:(pm b e).length=l.length:=by rw [hl];simp [bV]
   cases hc:cR (gI (aR 1 b e)) (aG 1 b e) (aH 1 b e)<;>rw [hc] at h1
   ·simp only [cond_false] at h1;omega
   ·simp only [cond_true] at h1;omega
  rw [hl]
  rcases l with _ | ⟨a,_ | ⟨c,_ | ⟨d,_ | ⟨f,_ | ⟨g,l⟩⟩⟩⟩⟩
  ·exact .inl rfl
  ·exact .inr (.inl ⟨a,hz a (by simp),rfl⟩)
  ·exact .inr (.inr (.inl ⟨a,c,hz a (by simp),hz c (by simp),rfl⟩))
  ·exact .inr (.inr (.inr (.inl ⟨a,c,d,hz a (by simp),hz c (by simp),hz d (by simp),rfl⟩)))
  ·exact .inr (.inr (.inr (.inr ⟨a,c,d,f,hz a (by simp),hz c (by simp),hz d (by simp),hz f (by simp),rfl⟩)))
  ·simp only [length_cons] at hlen;omega
 ·exact .inl (Bool.eq_false_iff.2 hg)
theorem R5 {b:Bs}(hb:IsB b)(a e:Int):VCx prog ae 0 lN [.ptr 0 0] ⟨[aM b a e],[]⟩ λx T'=>x=gJ b e∧T'=ik b a e:=by
 rcases Km hb e with h | h | ⟨z0,h0,h⟩ | ⟨z0,z1,h0,h1,h⟩ | ⟨z0,z1,z2,h0,h1,h2,h⟩ | ⟨z0,z1,z2,z3,h0,h1,h2,h3,h⟩
 ·exact U2 hb a e λhg=>by rw [h] at hg;cases hg
 ·exact U2 hb a e λ_=>h
 ·exact aa1 hb a e h0 λ_=>h
 ·exact aa2 hb a e h0 h1 λ_=>h
 ·exact aa3 hb a e h0 h1 h2 λ_=>h
 ·exact aa4 hb a e h0 h1 h2 h3 λ_=>h
def TVle (x y:TV):Prop:=∀g w u,VR g w x u→VR g w y u
def TVleL:List TV→List TV→Prop
 |[],[]=>True
 |x::l,y::m=>TVle x y∧TVleL l m
 |_,_=>False
theorem TVle.refl (x:TV):TVle x x:=λ_ _ _ h=>h
theorem TVle.of_eq {x y:TV}(h:x=y):TVle x y:=h▸TVle.refl x
theorem TVle.nil (size:Nat):TVle (.val (.slice none 0 0)) (.vec size [] .none):=λ_ _ _ h=>by
 obtain rfl:=h.val_inv
 exact .nil trivial
theorem TVle.vec (size:Nat)(es:List (List TV))(tok:Tok):TVle (.vec size es tok) (.vec size es .none):=λ_ _ _ h=>og h
theorem TVleL.refl:∀l,TVleL l l
 |[]=>trivial
 |x::l=>⟨TVle.refl x,TVleL.refl l⟩
theorem TVleL.at:∀{l m:List TV},TVleL l m→l.length=m.length∧∀(j:Nat) x y,l[j]?=some x→m[j]?=some y→TVle x y
 |[],[],_=>⟨rfl,λj _ _ h=>by simp at h⟩
 |a::l,b::m,h=>by
  obtain ⟨h1,h2⟩:=TVleL.at h.2
  refine ⟨by simp [h1],λj x y hx hy=> ?_⟩
  cases j with
  |zero=>simp at hx hy;subst hx hy;exact h.1
  |succ j=>exact h2 j x y (by simpa using hx) (by simpa using hy)
 |[],_::_,h=>h.elim
 |_::_,[],h=>h.elim
theorem TVleL.vrs {l m:List TV}(h:TVleL l m){g:Gh}{w:World}{us:List Value}(hv:VRs g w l us):VRs g w m us:=by
 obtain ⟨h1,h2⟩:=h.at
 refine ⟨by rw [hv.1,h1],λj y u hy hu=> ?_⟩
 have hj:j<l.length:=by rw [h1];exact (List.getElem?_eq_some_iff.1 hy).1
 exact h2 j _ y (getElem?_eq_getElem hj) hy g w u (hv.2 j _ u (getElem?_eq_getElem hj) hu)
theorem TVle.tup {l m:List TV}(h:TVleL l m):TVle (.tup l) (.tup m):=λg w u hu=>by
 obtain ⟨us,rfl,hv⟩:=hu.tup_inv
 obtain ⟨h1,h2⟩:=h.vrs hv
 exact .tup h1 h2
theorem TVle.agg {l m:List TV}(h:TVleL l m):TVle (.agg l) (.agg m):=λg w u hu=>by
 cases hu with
 |agg hl hv=>
  obtain ⟨h1,h2⟩:=h.vrs ⟨hl,hv⟩
  exact .agg h1 h2
theorem VCx.toLe {P:Program}{G:aV}{f:FuncId}{xs:List TV}{T:VT}{y:TV}{Q:VT→Prop}(h:VCx P G 0 f xs T λx T'=>TVle x y∧Q T'):VCx P G 0 f xs T λx T'=>x=y∧Q T':=by
 intro g w us rw0 hG hx
 refine Calls.mono (h g w us rw0 hG hx) ?_
 rintro e w' ⟨v,x,g',T',he,⟨hq,hQ⟩,e',r',hv,hfx⟩
 exact ⟨v,_,g',T',he,⟨rfl,hQ⟩,e',r',hq _ _ _ hv,hfx⟩
def PO:aW:=λro ys T K=>match ys with
 |[.ptr k 0]=>match T.objs[k]? with
  |some (.cells [.val (.bool true),.vec 1 b .none,.val (.int .i64 a),.val (.int .i64 e)])=>(ble ro k=true∧IsB b)∧K (.tup [.agg [.val (.int .u32 (cV b e)),.val (.int .i64 (cW b e))],.val (.bool (bO b e))]) {T with objs:=T.objs.set k (aM (dP b e) (gZ b e a) (jd b e))}
  |_=>False
 |_=>False
def cP (p:Int × Int):List TV:= [.val (.int .u32 p.1),.val (.int .i64 p.2)]
def A8:List Nat:= [2,3,4,5]
def uf (L:Bs):List TV:= [.val (.slice none 0 0),.val (.bool false),.ptr 0 0,.vec 2 L (.tail 0 L.length)]
def U3 (O:Bs→Int→Int→VO)(L:Bs)(ok:Bool)(K:KX):Prop:=∀(bz Lz:Bs) (az ez cz dz:Int),bif ok then K .normal (aQ 25 A8 (uf L)) ⟨[O bz az ez],[(L.length,2,true)]⟩ [] else K .ret (aQ 25 A8 (uf Lz)) ⟨[O bz az ez,.cells [.val (.int .u32 cz),.val (.int .i64 dz)]],[(Lz.length,2,true)]⟩ []
def ppL (O:Bs→Int→Int→VO)(b L:Bs)(ok:Bool)(c0:Code):Nat→Option (bN × Code):=ct [(0,dE 25 A8 [(5,2)] (uf []) ⟨[O b 0 0],[(0,2,true)]⟩ (U3 O L ok),c0)]
theorem Zd (b L:Bs)(ok:Bool)(Q:TV→VT→Prop):ar prog ae (aF [(kJ,nj)]) aT 300 (ppL aM b L ok (aD prog pk 0)) 0 pk [.vec 1 b .none] am Q=
 (IsB (b)∧
 ((aD prog pk (0:Nat)=aD prog pk (0:Nat))∧
 (((@Eq (Option Nat) .none .none)∧
 ((@Eq (Nat) 0 0)∧
 ((@Eq (List Nat) [] [])∧
 (((@Eq (Option TV) (.some aE) (.some aE))∧
 True)∧
 ((@Eq (VT) ⟨[(.cells [aI,(av b),aB,aB])],[(0,(2,true))]⟩ ⟨[(.cells [aI,(av b),aB,aB])],[(0,(2,true))]⟩)∧
 ((@Eq (Bool) true true)∧
 (@Eq (List TV) [aE,aj,dL,yC] [aE,aj,dL,yC])))))))∧
 (∀bz:Bs,(∀Lz:Bs,(∀az:Int,(∀ez:Int,(∀cz:Int,(∀dz:Int,(bif ok
 then Q (.tup [(jb L (length L)),aI]) ⟨[(.cells [aI,(av bz),(ah az),(ah ez)])],[((length L),(2,true))]⟩
 else Q Cg ⟨[(.cells [aI,(av bz),(ah az),(ah ez)]),(i6 cz dz)],[((length Lz),(2,true))]⟩)))))))))):=by kernel_rfl
abbrev DK (b:Bs):VO:=(i6 (cV b (0:Int)) (cW b (0:Int)))
theorem U4 (b L:Bs)(a:Int)(Q:Exit→List TV→VT→List Nat→Nat→Prop):vx prog ae (aF [(kK,nR),(lN,PO)]) (aZ [(999999,.dead,none),(23,.vec 2 (L++ [cP (cV b 0,cW b 0)]) (.tail 0 (L.length+1)),some λT=>{T with tails:= [(L.length+1,2,true)]})]) 300 aN none 0 (cq prog pk 0) (aQ 25 A8 (uf L)) ⟨[aM b a 0],[(L.length,2,true)]⟩ [] (cN A8 Q)=
 (((@Eq (Bool) true true)∧
 IsB (b))∧
 (bif decide (bw b (0:Int)>(0:Int))
 then (((@Eq (Bool) true true)∧
 IsB (b))∧
 (bif !bO b (0:Int)
 then Q .ret (Ir L (length L)) ⟨[(.cells [aI,(av (dP b (0:Int))),(ah (gZ b (0:Int) a)),(ah (jd b (0:Int)))]),(DK b)],[((length L),(2,true))]⟩ [] 25
 else (bb prog (λ_=>.none) 0 ⟨[(.cells [aI,(av (dP b (0:Int))),(ah (gZ b (0:Int) a)),(ah (jd b (0:Int)))]),(DK b)],[((length L),(2,true))]⟩ (.call ⟨(.builtin .append),#[(.tmp 20),(.tmp 22)],#[58,58]⟩) [(20,(jb L (length L))),(22,(.vec 2 [[(.val (.int .u32 (cV b (0:Int)))),(.val (.int .i64 (cW b (0:Int))))]] .full))] (jb (L++ [cP (cV b (0:Int),cW b (0:Int))]) (length L+(1:Nat))) ⟨[(.cells [aI,(av (dP b (0:Int))),(ah (gZ b (0:Int) a)),(ah (jd b (0:Int)))]),(DK b)],[((length L+(1:Nat)),(2,true))]⟩∧
 Q .normal (Ir (L++ [cP (cV b (0:Int),cW b (0:Int))]) (length L+(1:Nat))) ⟨[(.cells [aI,(av (dP b (0:Int))),(ah (gZ b (0:Int) a)),(ah (jd b (0:Int)))]),(DK b)],[((length L+(1:Nat)),(2,true))]⟩ [] 25)))
 else Q (.exit 0) (Ir L (length L)) ⟨[(.cells [aI,(av b),(ah a),aB])],[((length L),(2,true))]⟩ [] 25)):=by kernel_rfl
theorem U5:∀ro ys T K,PO ro ys T K→VCx prog ae ro lN ys T K:=by
 intro ro ys T K hw
 unfold PO at hw
 split at hw
 ·rename_i k
  split at hw
  ·rename_i b a e ho
   obtain ⟨⟨hro,hb⟩,hk⟩:=hw
   refine VCx.at1 (Q:=λx o' l'=>x=gJ b e∧o'=aM (dP b e) (gZ b e a) (jd b e)∧l'= []) au (le_of_ble_eq_true hro) ho rfl (bH hb a e _ _) (ys1:= [.ptr 0 0]) (by simp [ap,TV.ren,aU]) ((R5 hb a e).mono λx T' ⟨h1,h2⟩=>⟨_,_,h2,h1,rfl,rfl⟩) ?_
   rintro x o' l' ⟨rfl,rfl,rfl⟩
   rw [bH (DH hb)]
   simpa [TV.ren,gJ,ap] using hk
  ·exact hw.elim
 ·exact hw.elim
def i8:Nat→Bs→List (Int × Int)→Option (List (Int × Int))
 | 0,_,_=>none
 |k+1,b,acc=>bif decide (bw b 0>0) then (bif bO b 0 then i8 k (dP b 0) (acc++ [(cV b 0,cW b 0)]) else none) else some acc
def wA (b:Bs):Option (List (Int × Int)):=i8 (b.length+1) b []
def bg (b:Bs):Bs:=((wA b).getD []).map cP
def gK (b:Bs):Bool:=(wA b).isSome
def A9 (b:Bs):TV:=.tup [.vec 2 (bg b) .none,.val (.bool (gK b))]
theorem yF (b:Bs):bw b 0=b.length:=rfl
theorem U6 {b:Bs}(h:bO b 0=true):jd b 0=0:=by
 simp only [bO,and_eq_true,decide_eq_true_eq] at h
 simp only [jd,h.1,cond_true,h.2]
theorem nm {n:Int}{b:Bs}{e:Int}:(aG n b e).length≤b.length:=by
 unfold aG;cases cR n b e
 ·exact le_refl _
 ·simp only [cond_true,length_drop];omega
theorem yG {b:Bs}(hl:bw b 0>0):(dP b 0).length<b.length:=by
 have h1:(aG 1 b 0).length<b.length:=by
  rw [yF] at hl
  have hk:cR 1 b 0=true:=by simp only [cR,decide_true,decide_eq_true (show (1:Int)≤b.length by omega)];rfl
  unfold aG
  rw [hk]
  simp only [cond_true,length_drop]
  omega
 unfold dP;cases dj b 0
 ·exact h1
 ·exact Nat.lt_of_le_of_lt nm h1
theorem Ba:∀(k j:Nat) (b:Bs) (acc:List (Int × Int)),b.length<k→b.length<j→i8 k b acc=i8 j b acc
 | 0,_,_,_,h,_=>absurd h (not_lt_zero _)
 |_,0,_,_,_,h=>absurd h (not_lt_zero _)
 |k+1,j+1,b,acc,h1,h2=>by
  unfold i8
  by_cases hl:bw b 0>0
  ·have:=yG hl
   rw [decide_eq_true hl,Ba k j (dP b 0) _ (by omega) (by omega)]
  ·rw [decide_eq_false hl];rfl
theorem Kn {b:Bs}{acc:List (Int × Int)}(hl:bw b 0>0)(ho:bO b 0=true):i8 (b.length+1) b acc=i8 ((dP b 0).length+1) (dP b 0) (acc++ [(cV b 0,cW b 0)]):=by
 have:=yG hl
 rw [Ba ((dP b 0).length+1) b.length (dP b 0) _ (by omega) (by omega)]
 simp only [i8,decide_eq_true hl,ho,cond_true]
theorem Ob {b:Bs}{acc:List (Int × Int)}(hl:bw b 0>0)(ho:bO b 0=false):i8 (b.length+1) b acc=none:=by
 simp only [i8,decide_eq_true hl,ho,cond_true,cond_false]
theorem Oc {b:Bs}{acc:List (Int × Int)}(hl:¬bw b 0>0):i8 (b.length+1) b acc=some acc:=by
 simp only [i8,decide_eq_false hl,cond_false]
theorem pn:∃inf:TypeInfo,prog.info? 186=some inf∧inf.size=2∧inf.bytes+1≤1000∧inf.zero=some (.agg #[.int .u32 0,.int .i64 0]):=
 ⟨(prog.info? 186).getD default,by kernel_rfl,by kernel_rfl,le_of_ble_eq_true (by kernel_rfl),by kernel_rfl⟩
theorem Od {T T1:VT}{s x:Operand}{l:List (Nat × TV)}{es es2:List (List TV)}{k n:Nat}{bn:Bool}(hs:cM T 2 (aP ae l s)=some (es,k,n,bn,T1))(hx:fP 2 (aP ae l x)=some es2)(hb:es.length+es2.length≤32000001):
    bb prog ae 0 T (.call ⟨.builtin .append,#[s,x],#[58,58]⟩) l (.vec 2 (es++es2) (.tail k (n+es2.length))) {T1 with tails:=T1.tails.set k (n+es2.length,2,bn)}:=by
  obtain ⟨inf,i1,i2,i3,i4⟩:=pn
  have h:=eQ (inf:=inf) (P:=prog) (G:=ae) (ro:=0) (T:=T) (T1:=T1) (t:=58) (tx:=58) (s:=s) (x:=x) (l:=l) (es:=es) (es2:=es2) (k:=k) (n:=n) (bn:=bn) Tryz.underlying58 i1 i4 (by rw [i2];rfl) (by rw [i2];decide) (by kernel_rfl) (by rw [i2];exact hs) (by rw [i2];exact hx)
    (by have h1:=i3
        have h2:=Nat.mul_le_mul hb h1
        omega)
  rw [i2] at h
  exact h
theorem jz (f g:Nat→Option Nat):∀l:List (Int × Int),bk f g (l.map cP)=l.map cP
 |[]=>rfl
 |a::l=>by simp only [map_cons,bk,jz f g l];rfl
theorem Ko:∀(l:List (Int × Int)) p,((l++ [p]).map cP)=l.map cP++ [cP p]:=λl p=>by rw [List.map_append];rfl
def Kp (O:Bs→Int→Int→VO)(b0:Bs)(e:Exit)(vs:List TV)(T:VT):Prop:=
 (∃(acc:List (Int × Int)) (bz:Bs) (az ez:Int),wA b0=some acc∧e=.normal∧vs=uf (acc.map cP)∧T=⟨[O bz az ez],[(acc.length,2,true)]⟩)∨
 (∃(Lz bz:Bs) (az ez cz dz:Int),wA b0=none∧e=.ret∧vs=uf Lz∧T=⟨[O bz az ez,.cells [.val (.int .u32 cz),.val (.int .i64 dz)]],[(Lz.length,2,true)]⟩)
theorem Kq {O:Bs→Int→Int→VO}{b0:Bs}{K:KX}(hK:U3 O (bg b0) (gK b0) K){e:Exit}{vs:List TV}{T:VT}(h:Kp O b0 e vs T):K e (aQ 25 A8 vs) T []:=by
 rcases h with ⟨acc,bz,az,ez,h1,rfl,rfl,rfl⟩ | ⟨Lz,bz,az,ez,cz,dz,h1,rfl,rfl,rfl⟩
 ·have:=hK bz [] az ez 0 0
  simp only [gK,h1,Option.isSome_some,cond_true,bg,getD_some,length_map] at this
  exact this
 ·have:=hK bz Lz az ez cz dz
  simp only [gK,h1,Option.isSome_none,cond_false] at this
  exact this
structure U7 where
 b:Bs
 a:Int
 acc:List (Int × Int)
theorem Oe {b0:Bs}(h0:IsB b0)(K:KX)(hK:U3 aM (bg b0) (gK b0) K):VWx prog ae none 0 (aD prog pk 0) (aQ 25 A8 (uf [])) ⟨[aM b0 0 0],[(0,2,true)]⟩ [] K:=by
 let sl:U7→List TV:=λs=>uf (s.acc.map cP)
 let TT:U7→VT:=λs=>⟨[aM s.b s.a 0],[(s.acc.length,2,true)]⟩
 refine dO (f:=pk) (id:=0) (by kernel_rfl) 25 A8 (λs:U7=>s.b.length) sl TT (λs=>IsB s.b∧s.acc.length+s.b.length≤b0.length∧i8 (s.b.length+1) s.b s.acc=wA b0) 1 1 (λ_ _=>⟨le_refl _,le_refl _⟩)
  (Kp aM b0) (λs hs=> ?_) ⟨b0,0,[]⟩ ⟨h0,by simp,rfl⟩ K (λe vs T hq=>Kq hK hq)
 obtain ⟨b,a,acc⟩:=s
 obtain ⟨hb,hlen,hgo⟩:=hs
 have hsm:=h0.small
 simp only at hb hlen hgo
 have hS:bf prog ae (aF [(kK,nR),(lN,PO)]):=aL λp hp=>by
  rcases mem_cons.1 hp with rfl | hp;exact pj
  obtain rfl:=mem_singleton.1 hp;exact U5
 have hv:=U4 b (acc.map cP) a
 rw [length_map] at hv
 refine bF ac aa hS ai (hv _) ?_
 refine ⟨⟨rfl,hb⟩,?_⟩
 by_cases hl:bw b 0>0
 ·refine aS (decide_eq_true hl) ⟨⟨rfl,hb⟩,?_⟩
  cases ho:bO b 0
  ·exact aS rfl ⟨rfl,rfl,.inr ⟨acc.map cP,_,_,_,_,_,by rw [←hgo];exact Ob hl ho,rfl,by simp only [uf,length_map],by rw [length_map];rfl⟩⟩
  ·have hlt:=yG hl
   have he:=U6 ho
   try delta DK
   rw [he]
   refine aO rfl ⟨?_,rfl,rfl,⟨dP b 0,gZ b 0 a,acc++ [(cV b 0,cW b 0)]⟩,⟨DH hb,by simp only [length_append,length_cons,length_nil];omega,by rw [←hgo];exact (Kn hl ho).symm⟩,hlt,.inr ⟨?_,?_⟩⟩
   ·have h:=Od (T:=⟨[aM (dP b 0) (gZ b 0 a) 0,.cells [.val (.int .u32 (cV b 0)),.val (.int .i64 (cW b 0))]],[(acc.length,2,true)]⟩) (T1:=⟨[aM (dP b 0) (gZ b 0 a) 0,.cells [.val (.int .u32 (cV b 0)),.val (.int .i64 (cW b 0))]],[(acc.length,2,true)]⟩) (s:=.tmp 20) (x:=.tmp 22) (l:= [(20,.vec 2 (acc.map cP) (.tail 0 acc.length)),(22,.vec 2 [cP (cV b 0,cW b 0)] .full)]) (es:=acc.map cP) (es2:= [cP (cV b 0,cW b 0)]) (k:=0) (n:=acc.length) (bn:=true)
     (by simp [aP,eO,cM]) rfl (by simp only [length_map,length_cons,length_nil];omega)
    exact h
   ·simp only [VT.keep,List.take_succ_cons,take_zero,map_cons,map_nil]
    rw [show VO.cells [.val (.bool true),.vec 1 (dP b 0) .none,.val (.int .i64 (gZ b 0 a)),.val (.int .i64 0)]=aM (dP b 0) (gZ b 0 a) 0 from rfl,bH (DH hb)]
    simp only [TT,length_append,length_cons,length_nil]
   ·have e1:=jz (aA 1) (aA 1) (acc++ [(cV b 0,cW b 0)])
    rw [Ko] at e1
    simp only [ap,TV.ren,e1,Tok.ren]
    simp only [sl,uf,Ko,length_append,length_map,length_cons,length_nil]
    rfl
 ·exact aO (decide_eq_false hl) ⟨rfl,rfl,.inl ⟨acc,b,a,0,by rw [←hgo];exact Oc hl,rfl,by simp only [uf,length_map],rfl⟩⟩
theorem R6 {b:Bs}(h:IsB b):dd prog ae (ppL aM b (bg b) (gK b) (aD prog pk 0)):=bA λp hp=>by
 obtain rfl:=mem_singleton.1 hp
 exact b9 λK hK=>Oe h K hK
theorem R7 {b:Bs}(h:gK b=false):bg b= []:=by
 unfold bg gK at*
 cases hc:wA b with
 |none=>rfl
 |some l=>rw [hc] at h;cases h
theorem vJ (b:Bs)(f g:Nat→Option Nat):bk f g (bg b)=bg b:=jz f g _
theorem Kr {b:Bs}{x:TV}{ok:Bool}(h:ok=gK b)(hx:x=(bif ok then .tup [.vec 2 (bg b) (.tail 0 (bg b).length),.val (.bool true)] else .tup [.val (.slice none 0 0),.val (.bool false)])):TVle (x.ren (aA 0) (aA 0)) (A9 b):=by
 subst h hx
 unfold A9
 cases h:gK b
 ·rw [R7 h]
  exact TVle.tup ⟨TVle.nil 2,TVle.refl _,trivial⟩
 ·refine TVle.of_eq ?_
  simp only [cond_true,TV.ren,ap,vJ,Tok.ren]
  rfl
theorem U8 {b:Bs}(hb:IsB b):VCx prog ae 0 pk [.vec 1 b .none] ⟨[],[]⟩ λx T'=>x=A9 b∧T'=⟨[],[]⟩:=by
 refine VCx.toLe (Q:=λT'=>T'=⟨[],[]⟩) (VCx.keepQ 0 0 (le_refl _) (le_refl _) (ak ac aa (aL λp hp=>by obtain rfl:=mem_singleton.1 hp;exact vH) (R6 hb) (Zd b (bg b) (gK b) _) ?_))
 refine ⟨hb,rfl,⟨rfl,rfl,rfl,⟨rfl,trivial⟩,rfl,rfl,rfl⟩,λbz Lz az ez cz dz=> ?_⟩
 cases h:gK b
 ·exact ⟨Kr h.symm rfl,rfl⟩
 ·exact ⟨Kr h.symm rfl,rfl⟩
theorem R8 (b:Bs)(f g:Nat→Option Nat):(A9 b).ren f g=A9 b:=by
 simp only [A9,TV.ren,ap,vJ,Tok.ren]
def me (kind:IntKind)(n:Nat):aW:=λro ys T K=>match ys with
 |[.ptr k 0]=>match T.objs[k]? with
  |some (.cells [.val (.bool true),.vec 1 b .none,.val (.int .i64 a),.val (.int .i64 e)])=>(ble ro k=true∧IsB b)∧∀(z:Int) (bz:Bs) (az ez:Int),(z=aR n b e∧bz=aG n b e∧ez=aH n b e)→K (.val (.int kind z)) {T with objs:=T.objs.set k (aM bz az ez)}
  |_=>False
 |_=>False
def Bb:aW:=λro ys T K=>match ys with
 |[.ptr k 0,.val (.int .i64 n)]=>match T.objs[k]? with
  |some (.cells [.val (.bool true),.vec 1 b .none,.val (.int .i64 a),.val (.int .i64 e)])=>(ble ro k=true∧IsB b)∧∀(v bz:Bs) (az ez:Int),(v=cm n b e∧bz=aG n b e∧ez=aH n b e)→K (.vec 1 v .none) {T with objs:=T.objs.set k (aM bz az ez)}
  |_=>False
 |_=>False
def Ci:aW:=λro ys T K=>match ys with
 |[.ptr k 0,.val (.int .i64 n)]=>match T.objs[k]? with
  |some (.cells [.val (.bool true),.vec 1 b .none,.val (.int .i64 a),.val (.int .i64 e)])=>(ble ro k=true∧IsB b)∧∀(v bz:Bs) (az ez:Int),(v=cm n b e∧bz=aG n b e∧ez=aH n b e)→K (.ptr T.objs.length 0) {T with objs:=T.objs.set k (aM bz az ez)++ [aM v 0 0]}
  |_=>False
 |_=>False
def yH:aW:=λro ys T K=>match ys with
 |[.ptr k 0]=>match T.objs[k]? with
  |some (.cells [.val (.bool true),.vec 1 b .none,.val (.int .i64 a),.val (.int .i64 e)])=>(ble ro k=true∧IsB b)∧∀(v bz:Bs) (az ez:Int),(v=cm (bw b e) b e∧bz=aG (bw b e) b e∧ez=aH (bw b e) b e)→K (.vec 1 v .none) {T with objs:=T.objs.set k (aM bz az ez)}
  |_=>False
 |_=>False
theorem np {kind:IntKind}{n:Nat}{ro:Nat}{ys:List TV}{T:VT}{K:TV→VT→Prop}(h:me kind n ro ys T K):ma kind n ro ys T K:=by
 unfold me at h
 split at h
 ·split at h
  ·rename_i ho
   unfold ma
   simp only [ho]
   exact ⟨h.1,h.2 _ _ _ _ ⟨rfl,rfl,rfl⟩⟩
  ·exact h.elim
 ·exact h.elim
theorem DL {ro:Nat}{ys:List TV}{T:VT}{K:TV→VT→Prop}(h:Bb ro ys T K):Dw ro ys T K:=by
 unfold Bb at h
 split at h
 ·split at h
  ·rename_i ho
   unfold Dw
   simp only [ho]
   exact ⟨h.1,h.2 _ _ _ _ ⟨rfl,rfl,rfl⟩⟩
  ·exact h.elim
 ·exact h.elim
theorem Of {ro:Nat}{ys:List TV}{T:VT}{K:TV→VT→Prop}(h:Ci ro ys T K):yy ro ys T K:=by
 unfold Ci at h
 split at h
 ·split at h
  ·rename_i ho
   unfold yy
   simp only [ho]
   exact ⟨h.1,h.2 _ _ _ _ ⟨rfl,rfl,rfl⟩⟩
  ·exact h.elim
 ·exact h.elim
theorem Ks {ro:Nat}{ys:List TV}{T:VT}{K:TV→VT→Prop}(h:yH ro ys T K):t5 ro ys T K:=by
 unfold yH at h
 split at h
 ·split at h
  ·rename_i ho
   unfold t5
   simp only [ho]
   exact ⟨h.1,h.2 _ _ _ _ ⟨rfl,rfl,rfl⟩⟩
  ·exact h.elim
 ·exact h.elim
def k9 (b:Bs)(e:Int):Int:=aR 1 b e
def Bc (b:Bs)(e:Int):Int:=aR 1 (aG 1 b e) (aH 1 b e)
def ei (b:Bs)(e:Int):Bs:=cm (Bc b e) (aG 1 (aG 1 b e) (aH 1 b e)) (aH 1 (aG 1 b e) (aH 1 b e))
def gL (b:Bs)(e:Int):Bs:=aG (Bc b e) (aG 1 (aG 1 b e) (aH 1 b e)) (aH 1 (aG 1 b e) (aH 1 b e))
def jY (b:Bs)(e:Int):Int:=aH (Bc b e) (aG 1 (aG 1 b e) (aH 1 b e)) (aH 1 (aG 1 b e) (aH 1 b e))
def fT:Nat→Bs→Int→List (Int × Bs)→Bs × Int × List (Int × Bs)
 | 0,b,e,acc=>(b,e,acc)
 |k+1,b,e,acc=>bif decide (bw b e>0) then fT k (gL b e) (jY b e) (acc++ [(k9 b e,ei b e)]) else (b,e,acc)
def Gg (b:Bs)(e:Int):=fT (b.length+1) b e []
def bU (p:Int × Bs):List TV:= [.val (.int .i64 p.1),.vec 1 p.2 .none]
def po (b:Bs)(e:Int):Bs:=(Gg b e).1
def nT (b:Bs)(e:Int):Int:=(Gg b e).2.1
def ug (b:Bs)(e:Int):List (Int × Bs):=(Gg b e).2.2
def la (b:Bs)(e:Int):Bs:=(ug b e).map bU
def wB (b:Bs)(e:Int):Bool:=decide (nT b e=0)
def ke:Nat→Bs→Int→List (Int × Bs)→Except Int (List (Int × Bs))
 | 0,_,_,_=>.error 0
 |k+1,b,e,acc=>bif decide (bw b e>0) then (bif decide (jY b e=0) then (bif decide (k9 b e=2) then (bif wB (ei b e) 0 then ke k (gL b e) (jY b e) (acc++ug (ei b e) 0) else .error 0) else .error 4) else .error 0) else .ok acc
def qm (b:Bs)(e:Int):=ke (b.length+1) b e []
def gq (b:Bs)(e:Int):Bool:=match qm b e with
 | .ok _=>true
 | .error _=>false
def fV (b:Bs)(e:Int):Bs:=match qm b e with
 | .ok l=>l.map bU
 | .error _=> []
def jZ (b:Bs)(e:Int):Int:=match qm b e with
 | .ok _=>0
 | .error s=>s
abbrev DM:=49
abbrev nH:=114
abbrev nI:=77
abbrev Gi:=47
def tl0 (T:VT)(n s:Nat):VT:={T with tails:= [(n,s,true)]}
def xi:List Nat:= [0,2,3,4]
def sE (L:Bs):List TV:= [.ptr 0 0,.val (.slice none 0 0),.val (.bool false),.vec 2 L (.tail 0 L.length)]
def U9 (b bz L:Bs)(a e ez:Int)(c0:Code):Nat→Option (bN × Code):=ct [(0,dE 25 xi [(4,2)] (sE []) ⟨[aM b a e],[(0,2,true)]⟩ (λK=>∀az:Int,K .normal (aQ 25 xi (sE L)) ⟨[aM bz az ez],[(L.length,2,true)]⟩ []),c0)]
def Iw:aW:=λro ys T K=>match ys with
 |[.ptr k 0]=>match T.objs[k]? with
  |some (.cells [.val (.bool true),.vec 1 b .none,.val (.int .i64 a),.val (.int .i64 e)])=>(ble ro k=true∧IsB b)∧∀az:Int,K (.tup [.vec 2 (la b e) .none,.val (.bool (wB b e))]) {T with objs:=T.objs.set k (aM (po b e) az (nT b e))}
  |_=>False
 |_=>False
def ui:List Nat:= [0,2,3,4,5]
def mD (L:Bs)(s:Int):List TV:= [.ptr 0 0,.val (.slice none 0 0),.val (.int .i64 s),.val (.bool false),.vec 2 L (.tail 0 L.length)]
def Og (L:Bs)(s:Int)(ok:Bool)(K:KX):Prop:=∀(bz Lz by':Bs) (az ez ay ey:Int),bif ok then K .normal (aQ 37 ui (mD L 0)) ⟨[aM bz az ez],[(L.length,2,true)]⟩ [] else K .ret (aQ 37 ui (mD Lz s)) ⟨[aM bz az ez,aM by' ay ey],[(Lz.length,2,true)]⟩ []
def Va (b L:Bs)(a e s:Int)(ok:Bool)(c0:Code):Nat→Option (bN × Code):=ct [(0,dE 37 ui [(5,2)] (mD [] 0) ⟨[aM b a e],[(0,2,true)]⟩ (Og L s ok),c0)]
def PP:aW:=λro ys T K=>match ys with
 |[.ptr k 0]=>match T.objs[k]? with
  |some (.cells [.val (.bool true),.vec 1 b .none,.val (.int .i64 a),.val (.int .i64 e)])=>(ble ro k=true∧IsB b)∧∀(bz:Bs) (az ez:Int),bif gq b e then K (.tup [.vec 2 (fV b e) .none,.val (.int .i64 0),.val (.bool true)]) {T with objs:=T.objs.set k (aM bz az ez)} else K (.tup [.vec 2 [] .none,.val (.int .i64 (jZ b e)),.val (.bool false)]) {T with objs:=T.objs.set k (aM bz az ez)}
  |_=>False
 |_=>False
theorem Vb (b bz L:Bs)(a e ez:Int)(Q:TV→VT→Prop):ar prog ae (aF [(jy,mc)]) aT 300 (U9 b bz L a e ez (aD prog nH 0)) 0 nH [.ptr 0 0] (cu (aM b a e)) Q=
 ((aD prog nH (0:Nat)=aD prog nH (0:Nat))∧
 (((@Eq (Option Nat) .none .none)∧
 ((@Eq (Nat) 0 0)∧
 ((@Eq (List Nat) [] [])∧
 (((@Eq (Option TV) (.some aE) (.some aE))∧
 True)∧
 ((@Eq (VT) ⟨[(.cells [aI,(av b),(ah a),(ah e)])],[(0,(2,true))]⟩ ⟨[(.cells [aI,(av b),(ah a),(ah e)])],[(0,(2,true))]⟩)∧
 ((@Eq (Bool) true true)∧
 (@Eq (List TV) [dL,aE,aj,yC] [dL,aE,aj,yC])))))))∧
 (∀az:Int,(((@Eq (Bool) true true)∧
 IsB (bz))∧
 Q (.tup [(jb L (length L)),(cS (ax eql (k6 ez (0:Int))))]) ⟨[(.cells [aI,(av bz),(ah az),(ah ez)])],[((length L),(2,true))]⟩)))):=by kernel_rfl
theorem R9 (b L:Bs)(p:List TV)(a e:Int)(Q:Exit→List TV→VT→List Nat→Nat→Prop):vx prog ae (aF [(kK,nR),(i7,me .i64 1),(kb,Bb)]) (aZ [(999999,.dead,none),(20,.vec 2 (L++ [p]) (.tail 0 (L.length+1)),some λT=>tl0 T (L.length+1) 2)]) 300 aN none 0 (cq prog nH 0) (aQ 25 xi (sE L)) ⟨[aM b a e],[(L.length,2,true)]⟩ [] (cN xi Q)=
 (((@Eq (Bool) true true)∧
 IsB (b))∧
 (bif decide (bw b e>(0:Int))
 then (((@Eq (Bool) true true)∧
 IsB (b))∧
 (∀z:Int,(∀bz:Bs,(∀az:Int,(∀ez:Int,(((@Eq (Int) (z) (aR (1:Nat) b e))∧
 ((@Eq (Bs) (bz) (aG (↑(1:Nat):Int) b e))∧
 (@Eq (Int) (ez) (aH (↑(1:Nat):Int) b e))))→(((@Eq (Bool) true true)∧
 IsB (bz))∧
 (∀z_11:Int,(∀bz_12:Bs,(∀az_13:Int,(∀ez_14:Int,(((@Eq (Int) (z_11) (aR (1:Nat) bz ez))∧
 ((@Eq (Bs) (bz_12) (aG (↑(1:Nat):Int) bz ez))∧
 (@Eq (Int) (ez_14) (aH (↑(1:Nat):Int) bz ez))))→(((@Eq (Bool) true true)∧
 IsB (bz_12))∧
 (∀v:Bs,(∀bz_17:Bs,(∀az_18:Int,(∀ez_19:Int,(((@Eq (Bs) (v) (cm z_11 bz_12 ez_14))∧
 ((@Eq (Bs) (bz_17) (aG z_11 bz_12 ez_14))∧
 (@Eq (Int) (ez_19) (aH z_11 bz_12 ez_14))))→(bb prog (λ_=>.none) 0 ⟨[(.cells [aI,(av bz_17),(ah az_18),(ah ez_19)]),(nD z v)],[((length L),(2,true))]⟩ (.call ⟨(.builtin .append),#[(.tmp 17),(.tmp 19)],#[55,55]⟩) [(17,(jb L (length L))),(19,(.vec 2 [[(.val (.int .i64 (z))),(.vec 1 (v) .none)]] .full))] (jb (L++ [p]) (length L+(1:Nat))) ⟨[(.cells [aI,(av bz_17),(ah az_18),(ah ez_19)]),(nD z v)],[((length L+(1:Nat)),(2,true))]⟩∧
 Q .normal [dL,aE,aj,(jb (L++ [p]) (length L+(1:Nat)))] ⟨[(.cells [aI,(av bz_17),(ah az_18),(ah ez_19)]),(nD z v)],[((length L+(1:Nat)),(2,true))]⟩ [] 25)))))))))))))))))))
 else Q (.exit 0) [dL,aE,aj,(jb L (length L))] ⟨[(.cells [aI,(av b),(ah a),(ah e)])],[((length L),(2,true))]⟩ [] 25)):=by kernel_rfl
theorem Vc (b L:Bs)(a e s:Int)(ok:Bool)(Q:TV→VT→Prop):ar prog ae bt aT 300 (Va b L a e s ok (aD prog nI 0)) 0 nI [.ptr 0 0] (cu (aM b a e)) Q=
 ((aD prog nI (0:Nat)=aD prog nI (0:Nat))∧
 (((@Eq (Option Nat) .none .none)∧
 ((@Eq (Nat) 0 0)∧
 ((@Eq (List Nat) [] [])∧
 (((@Eq (Option TV) (.some aE) (.some aE))∧
 True)∧
 ((@Eq (VT) ⟨[(.cells [aI,(av b),(ah a),(ah e)])],[(0,(2,true))]⟩ ⟨[(.cells [aI,(av b),(ah a),(ah e)])],[(0,(2,true))]⟩)∧
 ((@Eq (Bool) true true)∧
 (@Eq (List TV) PL PL)))))))∧
 (∀bz:Bs,(∀Lz:Bs,(∀by':Bs,(∀az:Int,(∀ez:Int,(∀ay:Int,(∀ey:Int,(bif ok
 then Q (.tup [(jb L (length L)),aB,aI]) ⟨[(.cells [aI,(av bz),(ah az),(ah ez)])],[((length L),(2,true))]⟩
 else Q (.tup [aE,(ah s),aj]) ⟨[(.cells [aI,(av bz),(ah az),(ah ez)]),(.cells [aI,(av by'),(ah ay),(ah ey)])],[((length Lz),(2,true))]⟩)))))))))):=by kernel_rfl
theorem Sa (b L C:Bs)(a e:Int)(Q:Exit→List TV→VT→List Nat→Nat→Prop):vx prog ae (aF [(kK,nR),(i7,me .i64 1),(Is,Ci),(jy,mc),(nH,Iw)]) (aZ [(999999,.dead,none),(35,.vec 2 (L++C) (.tail 0 (L.length+C.length)),some λT=>tl0 T (L.length+C.length) 2)]) 300 aN none 0 (cq prog nI 0) (aQ 37 ui (mD L 0)) ⟨[aM b a e],[(L.length,2,true)]⟩ [] (cN ui Q)=
 (((@Eq (Bool) true true)∧
 IsB (b))∧
 (bif decide (bw b e>(0:Int))
 then (((@Eq (Bool) true true)∧
 IsB (b))∧
 (∀z:Int,(∀bz:Bs,(∀az:Int,(∀ez:Int,(((@Eq (Int) (z) (aR (1:Nat) b e))∧
 ((@Eq (Bs) (bz) (aG (↑(1:Nat):Int) b e))∧
 (@Eq (Int) (ez) (aH (↑(1:Nat):Int) b e))))→(((@Eq (Bool) true true)∧
 IsB (bz))∧
 (∀z_11:Int,(∀bz_12:Bs,(∀az_13:Int,(∀ez_14:Int,(((@Eq (Int) (z_11) (aR (1:Nat) bz ez))∧
 ((@Eq (Bs) (bz_12) (aG (↑(1:Nat):Int) bz ez))∧
 (@Eq (Int) (ez_14) (aH (↑(1:Nat):Int) bz ez))))→(((@Eq (Bool) true true)∧
 IsB (bz_12))∧
 (∀v:Bs,(∀bz_17:Bs,(∀az_18:Int,(∀ez_19:Int,(((@Eq (Bs) (v) (cm z_11 bz_12 ez_14))∧
 ((@Eq (Bs) (bz_17) (aG z_11 bz_12 ez_14))∧
 (@Eq (Int) (ez_19) (aH z_11 bz_12 ez_14))))→(((@Eq (Bool) true true)∧
 IsB (bz_17))∧
 (bif ax neq (k6 ez_19 (0:Int))
 then Q .ret (Cf L (length L)) ⟨[(.cells [aI,(av bz_17),(ah az_18),(ah ez_19)]),(.cells [aI,(av v),aB,aB])],[((length L),(2,true))]⟩ [] 37
 else (bif ax neq (k6 z (2:Int))
 then Q .ret [dL,aE,lG,aj,(jb L (length L))] ⟨[(.cells [aI,(av bz_17),(ah az_18),(ah ez_19)]),(.cells [aI,(av v),aB,aB])],[((length L),(2,true))]⟩ [] 37
 else (((@Eq (Bool) true true)∧
 IsB (v))∧
 (∀az_21:Int,(bif !wB v (0:Int)
 then Q .ret (Cf L (length L)) ⟨[(.cells [aI,(av bz_17),(ah az_18),(ah ez_19)]),(.cells [aI,(av (po v (0:Int))),(ah az_21),(ah (nT v (0:Int)))])],[((length L),(2,true))]⟩ [] 37
 else (bb prog (λ_=>.none) 0 ⟨[(.cells [aI,(av bz_17),(ah az_18),(ah ez_19)]),(.cells [aI,(av (po v (0:Int))),(ah az_21),(ah (nT v (0:Int)))])],[((length L),(2,true))]⟩ (.call ⟨(.builtin .append),#[(.tmp 33),(.tmp 34)],#[55,55]⟩) [(33,(jb L (length L))),(34,(aY (la v (0:Int))))] (jb (L++C) (length L+length C)) ⟨[(.cells [aI,(av bz_17),(ah az_18),(ah ez_19)]),(.cells [aI,(av (po v (0:Int))),(ah az_21),(ah (nT v (0:Int)))])],[((length L+length C),(2,true))]⟩∧
 Q .normal (Cf (L++C) (length L+length C)) ⟨[(.cells [aI,(av bz_17),(ah az_18),(ah ez_19)]),(.cells [aI,(av (po v (0:Int))),(ah az_21),(ah (nT v (0:Int)))])],[((length L+length C),(2,true))]⟩ [] 37)))))))))))))))))))))))))
 else Q (.exit 0) (Cf L (length L)) ⟨[(.cells [aI,(av b),(ah a),(ah e)])],[((length L),(2,true))]⟩ [] 37)):=by kernel_rfl
theorem Kt {b:Bs}{e:Int}(h:bw b e>0):e=0∧0<b.length:=by
 unfold bw at h
 by_cases he:e=0
 ·rw [decide_eq_true he] at h;simp only [cond_true] at h;exact ⟨he,by omega⟩
 ·rw [decide_eq_false he] at h;simp only [cond_false] at h;omega
theorem Vd (n:Int)(b:Bs)(e:Int):(cm n b e).length+(aG n b e).length≤b.length:=by
 unfold cm aG;cases h:cR n b e
 ·simp only [cond_false,length_nil];omega
 ·simp only [cond_true,length_take,length_drop];omega
theorem Ah {b:Bs}{e:Int}(h:bw b e>0):(aG 1 b e).length<b.length:=by
 obtain ⟨rfl,hp⟩:=Kt h
 have hk:cR 1 b 0=true:=by simp only [cR,decide_true,decide_eq_true (show (1:Int)≤b.length by omega)];rfl
 unfold aG
 rw [hk]
 simp only [cond_true,length_drop]
 omega
theorem nq {b:Bs}{e:Int}(h:bw b e>0):(ei b e).length+(gL b e).length<b.length:=by
 have h1:=Ah h
 have h2:=nm (n:=1) (b:=aG 1 b e) (e:=aH 1 b e)
 have h3:=Vd (Bc b e) (aG 1 (aG 1 b e) (aH 1 b e)) (aH 1 (aG 1 b e) (aH 1 b e))
 unfold ei gL
 omega
theorem uj {b:Bs}{e:Int}(h:IsB b):IsB (ei b e):=iI (aK (aK h))
theorem uo {b:Bs}{e:Int}(h:IsB b):IsB (gL b e):=aK (aK (aK h))
theorem yI:∀(k j:Nat) (b:Bs) (e:Int) (acc:List (Int × Bs)),b.length<k→b.length<j→fT k b e acc=fT j b e acc
 | 0,_,_,_,_,h,_=>absurd h (not_lt_zero _)
 |_,0,_,_,_,_,h=>absurd h (not_lt_zero _)
 |k+1,j+1,b,e,acc,h1,h2=>by
  unfold fT
  by_cases hl:bw b e>0
  ·have:=nq hl
   rw [decide_eq_true hl,yI k j (gL b e) _ _ (by omega) (by omega)]
  ·rw [decide_eq_false hl];rfl
theorem Ix {b:Bs}{e:Int}{acc:List (Int × Bs)}(hl:bw b e>0):fT (b.length+1) b e acc=fT ((gL b e).length+1) (gL b e) (jY b e) (acc++ [(k9 b e,ei b e)]):=by
 have:=nq hl
 rw [yI ((gL b e).length+1) b.length (gL b e) _ _ (by omega) (by omega)]
 simp only [fT,decide_eq_true hl,cond_true]
theorem Ku {b:Bs}{e:Int}{acc:List (Int × Bs)}(hl:¬bw b e>0):fT (b.length+1) b e acc=(b,e,acc):=by
 simp only [fT,decide_eq_false hl,cond_false]
def AllB (l:List (Int × Bs)):Prop:=∀p∈l,IsB p.2
theorem AllB.app {l m:List (Int × Bs)}(h:AllB l)(k:AllB m):AllB (l++m):=λp hp=>by
 rcases List.mem_append.1 hp with h1 | h1
 ·exact h p h1
 ·exact k p h1
theorem AllB.one {c:Int}{v:Bs}(h:IsB v):AllB [(c,v)]:=λp hp=>by obtain rfl:=mem_singleton.1 hp;exact h
theorem AllB.nil:AllB []:=λp hp=>by simp at hp
theorem DN:∀(k:Nat) (b:Bs) (e:Int) (acc:List (Int × Bs)),b.length<k→IsB b→AllB acc→IsB (fT k b e acc).1∧AllB (fT k b e acc).2.2∧(fT k b e acc).2.2.length≤acc.length+b.length
 | 0,_,_,_,h,_,_=>absurd h (not_lt_zero _)
 |k+1,b,e,acc,h1,hb,ha=>by
  unfold fT
  by_cases hl:bw b e>0
  ·have:=nq hl
   rw [decide_eq_true hl]
   obtain ⟨h2,h3,h4⟩:=DN k (gL b e) (jY b e) (acc++ [(k9 b e,ei b e)]) (by omega) (uo hb) (ha.app (.one (uj hb)))
   refine ⟨h2,h3,?_⟩
   simp only [length_append,length_cons,length_nil] at h4
   simp only [cond_true]
   omega
  ·rw [decide_eq_false hl]
   exact ⟨hb,ha,Nat.le_add_right _ _⟩
theorem up {b:Bs}(e:Int)(h:IsB b):IsB (po b e)∧AllB (ug b e)∧(ug b e).length≤b.length:=by
 obtain ⟨h1,h2,h3⟩:=DN (b.length+1) b e [] (Nat.lt_succ_self _) h .nil
 exact ⟨h1,h2,Nat.le_trans h3 (by simp)⟩
theorem jA (f g:Nat→Option Nat):∀{l:List (Int × Bs)},AllB l→bk f g (l.map bU)=l.map bU
 |[],_=>rfl
 |a::l,h=>by
  have h1:=jA f g (l:=l) λp hp=>h p (mem_cons_of_mem _ hp)
  have h2:=(h a mem_cons_self).ren f g
  simp only [map_cons,bk,h1,bU,ap,TV.ren,h2,Tok.ren]
theorem Bd:∀(k j:Nat) (b:Bs) (e:Int) (acc:List (Int × Bs)),b.length<k→b.length<j→ke k b e acc=ke j b e acc
 | 0,_,_,_,_,h,_=>absurd h (not_lt_zero _)
 |_,0,_,_,_,_,h=>absurd h (not_lt_zero _)
 |k+1,j+1,b,e,acc,h1,h2=>by
  unfold ke
  by_cases hl:bw b e>0
  ·have:=nq hl
   rw [decide_eq_true hl,Bd k j (gL b e) _ _ (by omega) (by omega)]
  ·rw [decide_eq_false hl];rfl
theorem Kv {b:Bs}{e:Int}{acc:List (Int × Bs)}(hl:bw b e>0):ke (b.length+1) b e acc=bif decide (jY b e=0) then (bif decide (k9 b e=2) then (bif wB (ei b e) 0 then ke ((gL b e).length+1) (gL b e) (jY b e) (acc++ug (ei b e) 0) else .error 0) else .error 4) else .error 0:=by
 have:=nq hl
 rw [Bd ((gL b e).length+1) b.length (gL b e) _ _ (by omega) (by omega)]
 simp only [ke,decide_eq_true hl,cond_true]
theorem Oh {b:Bs}{e:Int}{acc:List (Int × Bs)}(hl:¬bw b e>0):ke (b.length+1) b e acc=.ok acc:=by
 simp only [ke,decide_eq_false hl,cond_false]
def jB (b:Bs):Bool:=decide (2≤b.length)&&(decide ((b.drop 2).length≤4075)&& !decide (fZ (b[0]?.getD [])=0))
def Gj (b:Bs):TV:=bif jB b then .tup [.agg [.val (.int .i64 (fZ (b[0]?.getD []))),.val (.int .i64 (fZ (b[1]?.getD []))),.vec 1 (b.drop 2) .none],.val (.bool true)] else .tup [.agg [.val (.int .i64 0),.val (.int .i64 0),.vec 1 [] .none],.val (.bool false)]
theorem DO:∃inf:TypeInfo,prog.info? 101=some inf∧inf.size=2∧inf.bytes+1≤1000∧inf.zero=some (.agg #[.int .i64 0,.slice none 0 0]):=
 ⟨(prog.info? 101).getD default,by kernel_rfl,by kernel_rfl,le_of_ble_eq_true (by kernel_rfl),by kernel_rfl⟩
theorem DP {ro:Nat}{T T1:VT}{s x:Operand}{l:List (Nat × TV)}{es es2:List (List TV)}{k n:Nat}{bn:Bool}(hs:cM T 2 (aP ae l s)=some (es,k,n,bn,T1))(hx:fP 2 (aP ae l x)=some es2)(hb:es.length+es2.length≤64000001):
    bb prog ae ro T (.call ⟨.builtin .append,#[s,x],#[55,55]⟩) l (.vec 2 (es++es2) (.tail k (n+es2.length))) {T1 with tails:=T1.tails.set k (n+es2.length,2,bn)}:=by
  obtain ⟨inf,i1,i2,i3,i4⟩:=DO
  have h:=eQ (inf:=inf) (P:=prog) (G:=ae) (ro:=ro) (T:=T) (T1:=T1) (t:=55) (tx:=55) (s:=s) (x:=x) (l:=l) (es:=es) (es2:=es2) (k:=k) (n:=n) (bn:=bn) Tryz.underlying55 i1 i4 (by rw [i2];rfl) (by rw [i2];decide) (by kernel_rfl) (by rw [i2];exact hs) (by rw [i2];exact hx)
    (by have h1:=i3
        have h2:=Nat.mul_le_mul hb h1
        omega)
  rw [i2] at h
  exact h
structure Ve where
 b:Bs
 a:Int
 e:Int
 acc:List (Int × Bs)
theorem Kw {b0:Bs}(h0:IsB b0)(a0 e0:Int)(K:KX)(hK:∀az:Int,K .normal (aQ 25 xi (sE (la b0 e0))) ⟨[aM (po b0 e0) az (nT b0 e0)],[((la b0 e0).length,2,true)]⟩ []):VWx prog ae none 0 (aD prog nH 0) (aQ 25 xi (sE [])) ⟨[aM b0 a0 e0],[(0,2,true)]⟩ [] K:=by
 let sl:Ve→List TV:=λs=>sE (s.acc.map bU)
 let TT:Ve→VT:=λs=>⟨[aM s.b s.a s.e],[(s.acc.length,2,true)]⟩
 let Post:Exit→List TV→VT→Prop:=λe vs T=>e=.normal∧∃az:Int,vs=sE (la b0 e0)∧T=⟨[aM (po b0 e0) az (nT b0 e0)],[((la b0 e0).length,2,true)]⟩
 refine dO (f:=nH) (id:=0) (by kernel_rfl) 25 xi (λs:Ve=>s.b.length) sl TT (λs=>IsB s.b∧AllB s.acc∧s.acc.length+s.b.length≤b0.length∧fT (s.b.length+1) s.b s.e s.acc=Gg b0 e0) 1 1 (λ_ _=>⟨le_refl _,le_refl _⟩)
  Post (λs hs=> ?_) ⟨b0,a0,e0,[]⟩ ⟨h0,.nil,by simp,rfl⟩ K (λe vs T ⟨h1,az,h2,h3⟩=>by subst h1 h2 h3;exact hK az)
 obtain ⟨b,a,e,acc⟩:=s
 obtain ⟨hb,ha,hlen,hgo⟩:=hs
 have hsm:=h0.small
 simp only at hb ha hlen hgo
 have hS:bf prog ae (aF [(kK,nR),(i7,me .i64 1),(kb,Bb)]):=aL λp hp=>by
  rcases mem_cons.1 hp with rfl | hp;exact pj
  rcases mem_cons.1 hp with rfl | hp;exact λro ys T K h=>rt _ _ _ _ (np h)
  obtain rfl:=mem_singleton.1 hp;exact λro ys T K h=>uc _ _ _ _ (DL h)
 have hv:=R9 b (acc.map bU) (bU (k9 b e,ei b e)) a e
 rw [length_map] at hv
 refine bF ac aa hS ai (hv _) ?_
 refine ⟨⟨rfl,hb⟩,?_⟩
 by_cases hl:bw b e>0
 ·refine aS (decide_eq_true hl) ⟨⟨rfl,hb⟩,?_⟩
  rintro z bz az ez ⟨rfl,rfl,rfl⟩
  refine ⟨⟨rfl,aK hb⟩,?_⟩
  rintro z bz az ez ⟨rfl,rfl,rfl⟩
  refine ⟨⟨rfl,aK (aK hb)⟩,?_⟩
  rintro v bz az ez ⟨rfl,rfl,rfl⟩
  have hlt:=nq hl
  have hb2:=uo (e:=e) hb
  have ha2:=ha.app (.one (c:=k9 b e) (uj (e:=e) hb))
  have e1:(acc++ [(k9 b e,ei b e)]).map bU=acc.map bU++ [bU (k9 b e,ei b e)]:=by rw [List.map_append];rfl
  refine ⟨?_,rfl,rfl,⟨gL b e,az,jY b e,acc++ [(k9 b e,ei b e)]⟩,⟨hb2,ha2,by simp only [length_append,length_cons,length_nil];omega,by rw [←hgo];exact (Ix hl).symm⟩,by simp only;omega,.inr ⟨?_,?_⟩⟩
  ·have h:=DP (ro:=0) (T:=⟨[aM (gL b e) az (jY b e),.cells (bU (k9 b e,ei b e))],[(acc.length,2,true)]⟩) (T1:=⟨[aM (gL b e) az (jY b e),.cells (bU (k9 b e,ei b e))],[(acc.length,2,true)]⟩) (s:=.tmp 17) (x:=.tmp 19) (l:= [(17,.vec 2 (acc.map bU) (.tail 0 acc.length)),(19,.vec 2 [bU (k9 b e,ei b e)] .full)]) (es:=acc.map bU) (es2:= [bU (k9 b e,ei b e)]) (k:=0) (n:=acc.length) (bn:=true)
    (by simp [aP,eO,cM]) rfl (by simp only [length_map,length_cons,length_nil];omega)
   exact h
  ·refine (show VT.keep ⟨aM (gL b e) az (jY b e)::_,_⟩ 1 1=_ from ?_)
   simp only [VT.keep,List.take_succ_cons,take_zero,map_cons,map_nil,bH hb2]
   simp only [TT,length_append,length_cons,length_nil]
  ·have e2:=jA (aA 1) (aA 1) ha2
   rw [e1] at e2
   simp only [ap,TV.ren,e2,Tok.ren]
   simp only [sl,sE,e1,length_append,length_map,length_cons,length_nil]
   rfl
 ·have hE:=(Ku (acc:=acc) hl).symm.trans hgo
  refine aO (decide_eq_false hl) ⟨rfl,rfl,rfl,a,?_,?_⟩
  ·simp only [sE,la,ug,←hE,length_map]
  ·simp only [po,nT,la,ug,←hE,length_map];rfl
theorem Oi {b:Bs}(h:IsB b)(a e:Int):dd prog ae (U9 b (po b e) (la b e) a e (nT b e) (aD prog nH 0)):=bA λp hp=>by
 obtain rfl:=mem_singleton.1 hp
 exact b9 λK hK=>Kw h a e K hK
theorem Sb {b:Bs}(hb:IsB b)(a e:Int):VCx prog ae 0 nH [.ptr 0 0] ⟨[aM b a e],[]⟩ λx T'=>x=.tup [.vec 2 (la b e) .none,.val (.bool (wB b e))]∧∃az,T'=⟨[aM (po b e) az (nT b e)],[]⟩:=by
 obtain ⟨h1,h2,h3⟩:=up e hb
 refine VCx.keepQ 1 0 (le_refl _) (le_refl _) (ak ac aa (aL λp hp=>by obtain rfl:=mem_singleton.1 hp;exact ru) (Oi hb a e) (Vb b (po b e) (la b e) a e (nT b e) _) ?_)
 refine ⟨rfl,⟨rfl,rfl,rfl,⟨rfl,trivial⟩,rfl,rfl,rfl⟩,λaz=>⟨⟨rfl,h1⟩,?_,az,gN h1 _ _ _ _⟩⟩
 have e2:bk (aA 1) (aA 0) (la b e)=la b e:=jA _ _ h2
 simp only [TV.ren,ap,e2,Tok.ren,gH]
 rfl
theorem Sc:∀ro ys T K,Iw ro ys T K→VCx prog ae ro nH ys T K:=by
 intro ro ys T K hw
 unfold Iw at hw
 split at hw
 ·rename_i k
  split at hw
  ·rename_i b a e ho
   obtain ⟨⟨hro,hb⟩,hk⟩:=hw
   obtain ⟨h1,h2,h3⟩:=up e hb
   refine VCx.at1 (Q:=λx o' l'=>x=.tup [.vec 2 (la b e) .none,.val (.bool (wB b e))]∧(∃az,o'=aM (po b e) az (nT b e))∧l'= []) au (le_of_ble_eq_true hro) ho rfl (bH hb a e _ _) (ys1:= [.ptr 0 0]) (by simp [ap,TV.ren,aU]) ((Sb hb a e).mono λx T' ⟨h1,az,h2⟩=>⟨_,_,h2,h1,⟨az,rfl⟩,rfl⟩) ?_
   rintro x o' l' ⟨rfl,⟨az,rfl⟩,rfl⟩
   rw [bH h1]
   have e2:=jA (ba T.objs.length [k]) (ba T.tails.length []) h2
   simpa [TV.ren,ap,Tok.ren,la,e2] using hk az
  ·exact hw.elim
 ·exact hw.elim
--bumped 32
end Go.Proofs.YtogbdjlelkepcaaGreatDoor