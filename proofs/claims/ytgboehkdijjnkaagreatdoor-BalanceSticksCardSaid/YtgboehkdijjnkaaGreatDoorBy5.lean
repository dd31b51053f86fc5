/-Part 5 of the proof of balanceSticksCard_holds:BpKy,Gd,SbCmp ... No condition. -/
import Derived.Sort.Grow
import Derived.Shelf.GgSortFunc.InsertionK
import Derived.Shelf.SlSortCmp.NoneTotal
import Derived.Ground.SlsfProg
import Derived.Test.YtgboehkdijjnkaaGreatDoorProg
import Derived.Test.YtgboehkdijjnkaaGreatDoorBy1
import Derived.Test.YtgboehkdijjnkaaGreatDoorBy2
import Derived.Test.YtgboehkdijjnkaaGreatDoorBy3
import Derived.Test.YtgboehkdijjnkaaGreatDoorBy4
set_option maxRecDepth 100000
namespace Go.Proofs.YtgboehkdijjnkaaGreatDoor
open Go.RowKit
open _root_.Array (length_toList toList)
open Go.BinOp (eql)
open _root_.Bool (not_eq_true')
open Go.Calls (mono)
open Go.Fence (wide)
open _root_.Function (comp_def)
open _root_.Int (natCast_nonneg toNat_natCast)
open Go.IntKind (i64 u32 u64 wrap)
open _root_.List (append_nil cons_append drop eq_nil_of_length_eq_zero ext_getElem? flatMap_cons flatten flatten_cons getElem?_cons_succ getElem?_cons_zero getElem?_eq_getElem getElem?_eq_none getElem?_map getElem?_set getElem?_take length length_append length_cons length_map length_mergeSort length_nil length_set length_take map_append map_cons map_map map_nil mem_cons mem_cons_of_mem mem_cons_self mem_map mem_map_of_mem mem_of_getElem? mem_singleton nodup_nil not_mem_nil setIfInBounds_toArray set_cons_succ set_cons_zero take_length take_succ_cons take_zero toArray zipWith)
open _root_.Nat (add_mul beq beq_refl le_refl le_trans mul_le_mul not_lt_zero zero_add zero_le)
open _root_.Option (getD_some map_some)
open Go.Sort (grow)
open Go.Proofs.Tryz (func100 func117 func118 func142 func143 func83 func92 isAgg0 isAgg29 isAgg3 isAgg4 isAgg5 isAgg53 isAgg72 isAgg9 prog sizeOf0 sizeOf3 sizeOf4 sizeOf5 sizeOf9 underlying130 underlying29)
open Go.World (cell?)
section
open Go.RowKit Go.Maps Go.Sort Go.Shelf
theorem Hc {G:aD}{ro k m:Nat}{T:VT}{sh:KS}{look:Value→Option TV}{es:List (Value × TV × Nat)}{ck:Nat}{ids:List Int}(hk0:T.objs[k]?=some (.cells [.map m]))(hm0:T.objs[m]?=some (.map sh look es ck))(hk:es.map (·.1)=ids.map aC)(hw:∀z∈ids,0≤z∧z<1000)(hb1:∀e∈es,e.2.2<ck)(hb2:(es.map (·.2.2)).Nodup)(hn:ids.length≤100):
    VCx prog G ro vH [.fn (.func wC) [] [.ptr k 0]] T λx T'=>x=.vec 1 ((ids.mergeSort leI).map λz=> [.val (aC z)]) .none∧T'=T:=by
  intro g w us r hG hx
  match us,hx.1 with
  |[u],_=>
    obtain ⟨us',vs,rfl,h3,h4⟩:=(hx.2 0 _ u rfl rfl).fn_inv
    have e3:us'= []:=eq_nil_of_length_eq_zero h3.1
    subst e3
    match vs,h4 with
    |[v],h4=>
      obtain ⟨Bm,o1,rfl⟩:=(h4.2 0 _ v rfl rfl).ptr_inv
      obtain ⟨B0,p1,⟨us0,t0,p2,p3,_⟩,_,_⟩:=r.obj k _ hk0 rfl
      rw [o1] at p1;injection p1 with p1;subst p1
      obtain ⟨b,q1,⟨ms,q2,q3,q4,q5,q6,q7,q8⟩,_,_⟩:=r.obj m _ hm0 rfl
      have hBm:Bm<w.heap.size:=(Array.getElem?_eq_some_iff.1 p2).1
      have hbl:b<w.heap.size:=(Array.getElem?_eq_some_iff.1 q2).1
      have hcell:w.cell? ⟨Bm,0,none⟩=some (.map (some b)):=by
        match us0,p3 with
        |[x],p3=>
          obtain ⟨b2,r1,rfl⟩:=(p3.2 0 _ x rfl rfl).map_inv
          rw [q1] at r1;injection r1 with r1;subst r1
          simp [cell?,p2]
        |[],p3=>have:=p3.1;simp at this
        |_::_::_,p3=>have:=p3.1;simp at this
      have hkeys:ms.toList.map (·.key)=ids.map aC:=q3.trans hk
      have hlen:ms.toList.length=ids.length:=by have:=congrArg length hkeys;simpa using this
      have hown:w.ownsMap prog 3 ld b ids.length (.map ((ms.toList.map (Go.WideElems.rg prog 3 ld)).foldr DataW.insert [])):=by
        refine ⟨ms,ck,q2,⟨?_,⟨?_,?_,?_⟩,?_⟩,?_,rfl⟩
        · simp only [length_toList] at hlen
          rw [hlen];unfold maxLen;omega
        · intro x hx
          have hm:x.born∈ms.toList.map (·.born):=mem_map_of_mem hx
          rw [q5] at hm
          obtain ⟨e,he,heq⟩:=mem_map.1 hm
          rw [←heq];exact hb1 e he
        · rw [q5];exact hb2
        · rw [q3];exact q7
        · intro x hx
          have hm:x.key∈ms.toList.map (·.key):=mem_map_of_mem hx
          rw [hkeys] at hm
          obtain ⟨z,hz,heq⟩:=mem_map.1 hm
          exact ⟨_,xK heq.symm (hw z hz)⟩
        · simp only [length_toList] at hlen
          omega
      have hsz:Maps.size (.map ((ms.toList.map (Go.WideElems.rg prog 3 ld)).foldr DataW.insert []):DataW Unit)=ids.length:=by
        simp only [Maps.size,DataW.length_sorted,length_map]
        exact hlen
      have hseq:SeqGives wide 2 prog wC #[.pointer (some ⟨Bm,0,none⟩)] encZ (λss=>ss.Perm (intKeys (.map ((ms.toList.map (Go.WideElems.rg prog 3 ld)).foldr DataW.insert []):DataW Unit))) _ w:=
        AnyZI.keys_gives (ρ:=Tryz.keysP_ren) {Tryz.keysP with} wide _ trivial rfl (by omega) Bm b ids.length _ w hBm hcell hown
      have cS:=AnyZI.sorted_in Tryz.sortedI wide 5 trivial trivial trivial trivial rfl (by omega) (CM _) (enters_of Tryz.func95 (by kernel_rfl) rfl) wC #[.pointer (some ⟨Bm,0,none⟩)] trivial (enters_of Tryz.func96 (by kernel_rfl) rfl) _ _ (by rw [hsz];unfold maxLen;omega) (by rw [hsz];omega) w hseq
      refine ((callsIn_wide (n:=5)).1 cS).mono ?_
      rintro e w' ⟨v,ss,rfl,hS,⟨hl,hrow⟩,_,gr⟩
      have hsort:ss.mergeSort (λx y=>decide (x≤y))=ids.mergeSort leI:=mergeSort_of_perm_i (hS.trans (l9 hkeys hw))
      have hsl:ss.length=ids.length:=(hS.trans (l9 hkeys hw)).length_eq
      rw [hsort] at hl hrow
      have r1:=r.gr gr
      have e1:=Evo.of_gr r gr
      have hms:(ids.mergeSort leI).length=ids.length:=length_mergeSort ids
      rcases hrow with ⟨rfl,h0⟩ | ⟨b',cap,cur,rfl,hb,hg,hnc,hcm,hcs,htk⟩
      · have h1:ids.mergeSort leI= []:=eq_nil_of_length_eq_zero (by omega)
        rw [h1]
        exact ⟨_,_,g,_,rfl,⟨rfl,rfl⟩,e1,r1,.nil trivial,Fix.of_same (Same.of_gr r gr) (by simp)⟩
      · have hnf:¬g.fr b':=λhf=>by have:=r.fr b' hf;omega
        have hcell':∀(j:Nat) u,((ids.mergeSort leI).map aC)[j]?=some u→w'.cell? ⟨b',0+j,none⟩=some u:=λj u hu=>by
          unfold cell?
          simp only [hg,zero_add]
          have hu':((ids.mergeSort leI).map encZ)[j]?=some u:=hu
          rw [←htk,getElem?_take] at hu'
          split at hu'
          · simpa using hu'
          · cases hu'
        have hfl:((ids.mergeSort leI).map λz=> [TV.val (aC z)]).flatten=((ids.mergeSort leI).map aC).map .val:=by
          have:=CL ((ids.mergeSort leI).map aC)
          rw [map_map] at this
          exact this
        refine ⟨_,_,g.addSt b' (λo=>o<(ids.mergeSort leI).length),_,rfl,⟨rfl,rfl⟩,e1.trans (Evo.addSt hnf),r1.addSt hnf (λid o h hl'=>(r.fresh hb).obj id o h hl') (λk x o hx _ hin=>(r.fresh hb).tl k x hx (.inl ⟨o,hin⟩)) (λo ho=> ?_),?_,Fix.of_same (Same.of_gr r gr) (by simp)⟩
        · have:=hcell' o _ (by rw [getElem?_map,getElem?_eq_getElem ho];rfl)
          rw [zero_add] at this
          rw [this];rfl
        · refine .mk_vec (us:=(ids.mergeSort leI).map aC) (by simp [hms,hsl]) hnc hcm (λe he=>by obtain ⟨z,_,rfl⟩:=mem_map.1 he;rfl) trivial (by rw [hfl];exact VRs.vals _ _ _) (λj hj=>.inr ⟨rfl,?_⟩) hcell' (λu hu=>by obtain ⟨z,_,rfl⟩:=mem_map.1 hu;rfl)
          rw [hfl] at hj
          simpa using hj
    |[],h4=>have:=h4.1;simp at this
    |_::_::_,h4=>have:=h4.1;simp at this
end
section
open Go.RowKit
def Gd (w w':World):Prop:=Gr w w'∧w.drawn≤w'.drawn
theorem Gd.grow {w w':World}(h:Gd w w'):∃q os,w'=Go.Sort.grow (w.drewN q) os:=by
 obtain ⟨g,hd⟩:=h
 unfold Gr at g
 refine ⟨w'.drawn-w.drawn,w'.heap.extract w.heap.size w'.heap.size,?_⟩
 have hh:w'.heap=w.heap++w'.heap.extract w.heap.size w'.heap.size:=by
  apply Array.ext_getElem?
  intro i
  by_cases hi:i<w.heap.size
  ·rw [Array.getElem?_append_left hi,g.block i hi]
  ·rw [Array.getElem?_append_right (by omega),Array.getElem?_extract]
   by_cases hi2:i<w'.heap.size
   ·rw [if_pos (by simp;omega),show w.heap.size+(i-w.heap.size)=i by omega]
   ·rw [if_neg (by omega),Array.getElem?_eq_none (by omega)]
 have ho:=g.os;have ht:=g.tape;have hp:=g.output
 cases w';cases w
 simp only [Go.Sort.grow,World.drewN] at*
 subst ho ht hp
 congr 1
 omega
theorem Gd.alloc {a w:World}(h:Gd a w)(o:Obj):Gd a (w.alloc o):=⟨h.1.alloc o,h.2⟩
theorem Gd.drew {a w:World}(h:Gd a w):Gd a w.drew:=⟨h.1.drew,le_trans h.2 (Nat.le_succ _)⟩
theorem Gd.refl (w:World):Gd w w:=⟨Gr.refl w,le_refl _⟩
theorem Gd.trans {a b c:World}(h:Gd a b)(k:Gd b c):Gd a c:=⟨h.1.trans k.1,le_trans h.2 k.2⟩
end
section
open Go.RowKit
def dw (a b:Int):Int:=if a<b then-1 else if b<a then 1 else 0
set_option maxHeartbeats 400000 in
theorem FW (a b:Int)(w:World):Calls prog 85 #[.int .i64 a,.int .i64 b] w λe w'=>e=.returned (.int .i64 (dw a b))∧w=w':=by
 go_enter Tryz.func85,Tryz.ntmps85
 go_wp2
 all_goals (go_ret;exact ⟨zl (by unfold dw;first | rw [if_pos ‹_›] | rw [if_neg (by omega),if_pos (by omega)] | rw [if_neg (by omega),if_neg (by omega)]),rfl⟩)
def lp:List Int→Int
 |[]=>0
 |x::r=>if x=0 then lp r else x
theorem rR:∀(zs:List Int) (k:Nat),(∀j,j<k→zs.getD j 0=0)→lp zs=lp (zs.drop k)
 |[],_,_=>by simp
 |x::r,0,_=>by simp
 |x::r,k+1,h=>by
  have h0:=h 0 (by omega)
  simp at h0
  simp only [lp,h0,if_true,List.drop_succ_cons]
  exact rR r k (λj hj=>by have:=h (j+1) (by omega);simpa using this)

set_option maxHeartbeats 400000 in
theorem LG (zs:List Int)(w:World)(pb po:Nat)(hn:zs.length≤1000)(hc:∀j,j<zs.length→w.cell? ⟨pb,po+j,none⟩=some (.int .i64 (zs.getD j 0))):
  Calls prog 84 #[.slice (some ⟨pb,po,none⟩) zs.length zs.length] w λe w'=>e=.returned (.int .i64 (lp zs))∧w=w':=by
 have HC:=Lib.hid hc
 clear hc
 go_enter Tryz.func84,Tryz.ntmps84
 go_wp2
 go_loop [5,8] (λ_ i=>∃k:Nat,k≤zs.length∧i=.int .i64 k∧∀j,j<k→zs.getD j 0=0) (λ_ i=>zs.length-(intOf i).toNat)
 case atStart=>exact ⟨0,zero_le _,rfl,λj hj=>absurd hj (by omega)⟩
 case round=>
  obtain ⟨k,hk,rfl,hz⟩:=hrel
  have HZ:=Lib.hid hz
  clear hz
  by_cases hlt:k<zs.length
  ·have c0:=HC.out k hlt
   generalize hx:zs.getD k 0=x at c0
   have HX:=Lib.hid hx
   clear hx
   by_cases h0:x=0
   ·subst h0
    go_wp2
    go_round
    case rel=>exact ⟨k+1,by omega,by go_num,λj hj=>by
     rcases Nat.lt_or_ge j k with h | h
     ·exact HZ.out j h
     ·obtain rfl:j=k:=by omega
      exact HX.out⟩
    case measure=>simp [intOf];omega
   ·have e1:=Lib.hid (show lp zs=x by
     rw [rR zs k HZ.out,List.drop_eq_getElem_cons hlt]
     have:zs[k]=x:=by rw [←HX.out];simp [hlt]
     simp only [lp,this,h0,if_false])
    have h0':(x !=0)=true:=by simpa using h0
    clear h0
    go_wp2
    go_ret
    exact ⟨by rw [e1.out];rfl,rfl⟩
  ·have e1:=Lib.hid (show lp zs=0 by
    rw [rR zs k HZ.out,List.drop_eq_nil_of_le (by omega)];rfl)
   go_wp2
   go_ret
   exact ⟨by rw [e1.out];rfl,rfl⟩
def FX (x y:Int × Int × Int):Int:=lp [dw x.2.2 y.2.2,dw x.1 y.1]
set_option maxHeartbeats 800000 in
theorem Hd (a b:Int × Int × Int)(w:World):
  Calls prog 83 #[.agg #[.int .i64 a.1,.int .u32 a.2.1,.int .i64 a.2.2],.agg #[.int .i64 b.1,.int .u32 b.2.1,.int .i64 b.2.2]] w λe w'=>e=.returned (.int .i64 (FX a b))∧Gd w w':=by
 have g0:=((Gr.refl w).alloc (.cells #[.int .i64 a.1,.int .u32 a.2.1,.int .i64 a.2.2] 62))
 have gw:=g0.alloc (.cells #[.int .i64 b.1,.int .u32 b.2.1,.int .i64 b.2.2] 62)
 have x:=λi v h=>wI ((Gr.refl _).alloc (.cells #[.int .i64 b.1,.int .u32 b.2.1,.int .i64 b.2.2] 62)) (qd w [.int .i64 a.1,.int .u32 a.2.1,.int .i64 a.2.2] 62 i v h)
 have d0:=x 0 _ rfl
 have d2:=x 2 _ rfl
 have y:=λi v h=>qd (w.alloc (.cells #[.int .i64 a.1,.int .u32 a.2.1,.int .i64 a.2.2] 62)) [.int .i64 b.1,.int .u32 b.2.1,.int .i64 b.2.2] 62 i v h
 have d3:=y 0 _ rfl
 have d5:=y 2 _ rfl
 clear x y g0
 simp only [World.size_alloc] at d3 d5
 go_enter func83,Tryz.ntmps83
 go_wp2_with fail
 have hd:((w.alloc (.cells #[.int .i64 a.1,.int .u32 a.2.1,.int .i64 a.2.2] 62)).alloc (.cells #[.int .i64 b.1,.int .u32 b.2.1,.int .i64 b.2.2] 62)).drawn=w.drawn:=rfl
 generalize (w.alloc (.cells #[.int .i64 a.1,.int .u32 a.2.1,.int .i64 a.2.2] 62)).alloc (.cells #[.int .i64 b.1,.int .u32 b.2.1,.int .i64 b.2.2] 62)=W at*
 replace gw:Gd w W:=⟨gw,by omega⟩
 replace d0:=λw' (k:Gd W w')=>d0 w' k.1
 replace d2:=λw' (k:Gd W w')=>d2 w' k.1
 replace d3:=λw' (k:Gd W w')=>d3 w' k.1
 replace d5:=λw' (k:Gd W w')=>d5 w' k.1
 have e:=Lib.hid (show FX a b=lp [dw a.2.2 b.2.2,dw a.1 b.1] from rfl)
 generalize a.1=a1 at*
 generalize a.2.1=a2 at*
 generalize a.2.2=a3 at*
 generalize b.1=b1 at*
 generalize b.2.1=b2 at*
 generalize b.2.2=b3 at*
 have hS0:=(Gd.refl W).drew
 refine mJ [(0,true),(1,true),(2,true),(3,true),(5,true),(6,true),(7,true),(8,true),(4,false),(9,false),(10,false),(11,false),(12,true)] (Gd W) (by kernel_rfl) (by kernel_rfl) hS0 ?_
 simp only [gH,List.getElem?_toArray,getElem?_cons_zero,getElem?_cons_succ]
 repeat (first
  | (refine mt (by rfl) ?_;(try simp only [Act.put,setIfInBounds_toArray,set_cons_zero,set_cons_succ]))
  | (refine mu (by rfl) ?_;apply Exists.intro;refine ⟨λw' hSw=> ?_,?_⟩;(focus ((try dsimp only at hSw);go_simp;first | done | with_reducible rfl));(try simp only [Act.put,setIfInBounds_toArray,set_cons_zero,set_cons_succ]))
  | (refine jA (by rfl) (λK hK=> ?_);go_simp;(first | (go_at_call 85;refine (FW _ _ _).mono ?_;rintro e w2 ⟨rfl,rfl⟩) | (go_at_call 84;refine (LG [dw a3 b3,dw a1 b1] _ _ 0 (by simp) ?_).mono ?_;(focus (intro j hj;simp at hj;obtain rfl | rfl:j=0∨j=1:=(by omega))<;>simp);rintro e w2 ⟨rfl,rfl⟩));refine hK _ _ (by first | exact Gd.alloc (by assumption) _ | assumption) (λhSn=> ?_);clear hK K;(try simp only [Act.put,setIfInBounds_toArray,set_cons_zero,set_cons_succ]))
  | (refine jA (by rfl) (λK hK=> ?_);go_simp;refine hK _ _ (by first | exact Gd.alloc (by assumption) _ | assumption) (λhSn=> ?_);clear hK K;(try simp only [Act.put,setIfInBounds_toArray,set_cons_zero,set_cons_succ])))
 refine nn ?_
 go_wp2
 go_ret
 exact ⟨by rw [e.out];rfl,gw.trans (by assumption)⟩
end
section
open Go.RowKit
set_option maxHeartbeats 400000 in
theorem IF (a b:Int)(w:World):Calls prog 93 #[.int .u64 a,.int .u64 b] w λe w'=>e=.returned (.int .i64 (dw a b))∧w=w':=by
 go_enter Tryz.func93,Tryz.ntmps93
 go_wp2
 all_goals (go_ret;exact ⟨zl (by unfold dw;first | rw [if_pos ‹_›] | rw [if_neg (by omega),if_pos (by omega)] | rw [if_neg (by omega),if_neg (by omega)]),rfl⟩)
def fB (x y:Int × Int × Int):Int:=lp [dw y.2.2 x.2.2,dw x.2.1 y.2.1,dw x.1 y.1]
set_option maxHeartbeats 800000 in
theorem He (a b:Int × Int × Int)(w:World):
  Calls prog 92 #[.agg #[.int .i64 a.1,.int .i64 a.2.1,.int .u64 a.2.2],.agg #[.int .i64 b.1,.int .i64 b.2.1,.int .u64 b.2.2]] w λe w'=>e=.returned (.int .i64 (fB a b))∧Gd w w':=by
 have g0:=((Gr.refl w).alloc (.cells #[.int .i64 a.1,.int .i64 a.2.1,.int .u64 a.2.2] 150))
 have gw:=g0.alloc (.cells #[.int .i64 b.1,.int .i64 b.2.1,.int .u64 b.2.2] 150)
 have x:=λi v h=>wI ((Gr.refl _).alloc (.cells #[.int .i64 b.1,.int .i64 b.2.1,.int .u64 b.2.2] 150)) (qd w [.int .i64 a.1,.int .i64 a.2.1,.int .u64 a.2.2] 150 i v h)
 have d0:=x 0 _ rfl
 have d1:=x 1 _ rfl
 have d2:=x 2 _ rfl
 have y:=λi v h=>qd (w.alloc (.cells #[.int .i64 a.1,.int .i64 a.2.1,.int .u64 a.2.2] 150)) [.int .i64 b.1,.int .i64 b.2.1,.int .u64 b.2.2] 150 i v h
 have d3:=y 0 _ rfl
 have d4:=y 1 _ rfl
 have d5:=y 2 _ rfl
 clear x y g0
 simp only [World.size_alloc] at d3 d4 d5
 go_enter func92,Tryz.ntmps92
 go_wp2_with fail
 have hd:((w.alloc (.cells #[.int .i64 a.1,.int .i64 a.2.1,.int .u64 a.2.2] 150)).alloc (.cells #[.int .i64 b.1,.int .i64 b.2.1,.int .u64 b.2.2] 150)).drawn=w.drawn:=rfl
 generalize (w.alloc (.cells #[.int .i64 a.1,.int .i64 a.2.1,.int .u64 a.2.2] 150)).alloc (.cells #[.int .i64 b.1,.int .i64 b.2.1,.int .u64 b.2.2] 150)=W at*
 replace gw:Gd w W:=⟨gw,by omega⟩
 replace d0:=λw' (k:Gd W w')=>d0 w' k.1
 replace d1:=λw' (k:Gd W w')=>d1 w' k.1
 replace d2:=λw' (k:Gd W w')=>d2 w' k.1
 replace d3:=λw' (k:Gd W w')=>d3 w' k.1
 replace d4:=λw' (k:Gd W w')=>d4 w' k.1
 replace d5:=λw' (k:Gd W w')=>d5 w' k.1
 have e:=Lib.hid (show fB a b=lp [dw b.2.2 a.2.2,dw a.2.1 b.2.1,dw a.1 b.1] from rfl)
 generalize a.1=a1 at*
 generalize a.2.1=a2 at*
 generalize a.2.2=a3 at*
 generalize b.1=b1 at*
 generalize b.2.1=b2 at*
 generalize b.2.2=b3 at*
 have hS0:=(Gd.refl W).drew
 refine mJ [(0,true),(1,true),(2,true),(3,true),(5,true),(6,true),(7,true),(8,true),(10,true),(11,true),(12,true),(13,true),(4,false),(9,false),(14,false),(15,false),(16,false),(17,true)] (Gd W) (by kernel_rfl) (by kernel_rfl) hS0 ?_
 simp only [gH,List.getElem?_toArray,getElem?_cons_zero,getElem?_cons_succ]
 repeat (first
  | (refine mt (by rfl) ?_;(try simp only [Act.put,setIfInBounds_toArray,set_cons_zero,set_cons_succ]))
  | (refine mu (by rfl) ?_;apply Exists.intro;refine ⟨λw' hSw=> ?_,?_⟩;(focus ((try dsimp only at hSw);go_simp;first | done | with_reducible rfl));(try simp only [Act.put,setIfInBounds_toArray,set_cons_zero,set_cons_succ]))
  | (refine jA (by rfl) (λK hK=> ?_);go_simp;(first | (go_at_call 93;refine (IF _ _ _).mono ?_;rintro e w2 ⟨rfl,rfl⟩) | (go_at_call 85;refine (FW _ _ _).mono ?_;rintro e w2 ⟨rfl,rfl⟩) | (go_at_call 84;refine (LG [dw b3 a3,dw a2 b2,dw a1 b1] _ _ 0 (by simp) ?_).mono ?_;(focus (intro j hj;simp at hj;obtain rfl | rfl | rfl:j=0∨j=1∨j=2:=(by omega))<;>simp);rintro e w2 ⟨rfl,rfl⟩));refine hK _ _ (by first | exact Gd.alloc (by assumption) _ | assumption) (λhSn=> ?_);clear hK K;(try simp only [Act.put,setIfInBounds_toArray,set_cons_zero,set_cons_succ]))
  | (refine jA (by rfl) (λK hK=> ?_);go_simp;refine hK _ _ (by first | exact Gd.alloc (by assumption) _ | assumption) (λhSn=> ?_);clear hK K;(try simp only [Act.put,setIfInBounds_toArray,set_cons_zero,set_cons_succ])))
 refine nn ?_
 go_wp2
 go_ret
 exact ⟨by rw [e.out];rfl,gw.trans (by assumption)⟩
end
section
open Go.RowKit Go.Sort
variable {α:Type}[Inhabited α]
theorem zQ (enc:α→List Value)(k:Nat)(hk:∀x,(enc x).length=k):∀(l:List α) (i c:Nat),i<l.length→c<k→(l.flatMap enc)[i*k+c]?=(enc l[i]!)[c]?
 |[],i,c,h,_=>by simp at h
 |x::r,0,c,_,hc=>by
  rw [flatMap_cons,List.getElem?_append_left (by rw [hk];omega)]
  simp
 |x::r,i+1,c,h,hc=>by
  rw [flatMap_cons,List.getElem?_append_right (by rw [hk,add_mul];omega),hk,show (i+1)*k+c-k=i*k+c by rw [add_mul];omega,
   zQ enc k hk r i c (by simpa using h) hc]
  simp
omit [Inhabited α] in
theorem gB (enc:α→List Value)(k:Nat)(hk:∀x,(enc x).length=k)(l:List α):(l.flatMap enc).length=l.length*k:=by
 induction l with
 |nil=>simp
 |cons x r ih=>rw [flatMap_cons,length_append,hk,ih,length_cons,add_mul];omega
theorem tr (enc:α→List Value)(k:Nat)(hk:∀x,(enc x).length=k)(d:Array α)(t:Nat)(ht:t<d.size*k):(d.toList.flatMap enc)[t]?=some (flatK enc k d)[t]!:=by
 have k0:0<k:=by
  rcases Nat.eq_zero_or_pos k with h | h
  ·subst h;simp at ht
  ·exact h
 have hi:t/k<d.size:=(Nat.div_lt_iff_lt_mul k0).2 ht
 have hc:t%k<k:=Nat.mod_lt _ k0
 have e:t/k*k+t%k=t:=by rw [Nat.mul_comm];exact Nat.div_add_mod t k
 have h:=zQ enc k hk d.toList (t/k) (t%k) (by simpa using hi) hc
 rw [e] at h
 rw [h,get_flatK enc k d t ht]
 have e2:d.toList[t/k]! =d[t/k]!:=by simp [hi]
 rw [e2,getElem!_pos (enc d[t/k]!) (t%k) (by rw [hk];exact hc),getElem?_eq_getElem]
theorem vN (enc:α→List Value)(k:Nat)(hk:∀x,(enc x).length=k){w:World}{base:Nat}{e:TypeId}{v:Value}(d:Array α)(h:w.ownsRow base e k v d.size (d.toList.flatMap enc))(hn:0<d.size):
  ∃g cap,v=.slice (some ⟨g,0,none⟩) d.size cap∧base≤g∧g<w.heap.size∧HoldsK enc k w g 0 d:=by
 obtain ⟨hl,hx⟩:=h
 rcases hx with ⟨_,h0⟩ | ⟨g,cap,cur,rfl,hb,hg,hnc,hcm,hcs,htk⟩
 ·omega
 ·refine ⟨g,cap,rfl,hb,(Array.getElem?_eq_some_iff.1 hg).1,?_⟩
  intro j hj
  rw [size_flatK] at hj
  have h1:=tr enc k hk d j hj
  rw [←htk] at h1
  rw [getElem?_take,if_pos hj] at h1
  constructor
  ·unfold cell?
   simp only [hg,zero_add]
   simpa using h1
  ·unfold World.frozen?
   simp [hg]
end
end Go.Proofs.YtgboehkdijjnkaaGreatDoor
namespace Go.Proofs
open Go.RowKit
open _root_.Array (length_toList toList)
open Go.BinOp (eql)
open _root_.Bool (not_eq_true')
open Go.Calls (mono)
open Go.Fence (wide)
open _root_.Function (comp_def)
open _root_.Int (natCast_nonneg toNat_natCast)
open Go.IntKind (i64 u32 u64 wrap)
open _root_.List (append_nil cons_append drop eq_nil_of_length_eq_zero ext_getElem? flatMap_cons flatten flatten_cons getElem?_cons_succ getElem?_cons_zero getElem?_eq_getElem getElem?_eq_none getElem?_map getElem?_set getElem?_take length length_append length_cons length_map length_mergeSort length_nil length_set length_take map_append map_cons map_map map_nil mem_cons mem_cons_of_mem mem_cons_self mem_map mem_map_of_mem mem_of_getElem? mem_singleton nodup_nil not_mem_nil setIfInBounds_toArray set_cons_succ set_cons_zero take_length take_succ_cons take_zero toArray zipWith)
open _root_.Nat (add_mul beq beq_refl le_refl le_trans mul_le_mul not_lt_zero zero_add zero_le)
open _root_.Option (getD_some map_some)
open Go.Sort (grow)
open Go.Proofs.Tryz (func100 func117 func118 func142 func143 func83 func92 isAgg0 isAgg29 isAgg3 isAgg4 isAgg5 isAgg53 isAgg72 isAgg9 prog sizeOf0 sizeOf3 sizeOf4 sizeOf5 sizeOf9 underlying130 underlying29)
open Go.World (cell?)
open Go.Shelf
def Tryz.sortSeat_ren:Go.Shelf.Ren:=⟨λ| 6=>91 | 15=>100 | 14=>104 | 28=>117 | 29=>118 | 20=>124 | 21=>125 | 22=>126 | 23=>127 | 24=>128 | 25=>129 | 26=>130 | 27=>131 | 46=>150 | 47=>142 | 48=>143 | 49=>151 | 50=>152 | 57=>159 | n=>n,λ| 22=>147 | 24=>150 | 25=>167 | 3=>3 | 39=>72 | 0=>0 | 53=>29 | 55=>53 | 4=>4 | 46=>181 | 45=>180 | 50=>116 | 5=>5 | 9=>9 | 66=>203 | 70=>207 | 76=>216 | 77=>217 | n=>n,λ| n=>n⟩
theorem Tryz.sortSeat:Go.Proofs.SlLaysF0.n6 prog Tryz.sortSeat_ren:={
 mixed:=by kernel_rfl
 f6:=⟨Tryz.f91.name,by decide,Tryz.func91.trans (congrArg some (by kernel_rfl))⟩
 f14:=⟨Tryz.f104.name,by decide,Tryz.func104.trans (congrArg some (by kernel_rfl))⟩
 f15:=func100.trans (congrArg some (by kernel_rfl))
 f20:=⟨Tryz.f124.name,by decide,Tryz.func124.trans (congrArg some (by kernel_rfl))⟩
 f21:=⟨Tryz.f125.name,by decide,Tryz.func125.trans (congrArg some (by kernel_rfl))⟩
 f22:=⟨Tryz.f126.name,by decide,Tryz.func126.trans (congrArg some (by kernel_rfl))⟩
 f23:=⟨Tryz.f127.name,by decide,Tryz.func127.trans (congrArg some (by kernel_rfl))⟩
 f24:=⟨Tryz.f128.name,by decide,Tryz.func128.trans (congrArg some (by kernel_rfl))⟩
 f25:=⟨Tryz.f129.name,by decide,Tryz.func129.trans (congrArg some (by kernel_rfl))⟩
 f26:=⟨Tryz.f130.name,by decide,Tryz.func130.trans (congrArg some (by kernel_rfl))⟩
 f27:=⟨Tryz.f131.name,by decide,Tryz.func131.trans (congrArg some (by kernel_rfl))⟩
 f28:=func117.trans (congrArg some (by kernel_rfl))
 f29:=func118.trans (congrArg some (by kernel_rfl))
 f46:=⟨Tryz.f150.name,by decide,Tryz.func150.trans (congrArg some (by kernel_rfl))⟩
 f47:=func142.trans (congrArg some (by kernel_rfl))
 f48:=func143.trans (congrArg some (by kernel_rfl))
 f49:=⟨Tryz.f151.name,by decide,Tryz.func151.trans (congrArg some (by kernel_rfl))⟩
 f50:=⟨Tryz.f152.name,by decide,Tryz.func152.trans (congrArg some (by kernel_rfl))⟩
 f57:=⟨Tryz.f159.name,by decide,Tryz.func159.trans (congrArg some (by kernel_rfl))⟩
 t0:=Tryz.underlying0
 a0:=isAgg0
 z0:=sizeOf0
 v0:=Tryz.zeroValue0
 t3:=Tryz.underlying3
 a3:=isAgg3
 z3:=sizeOf3
 v3:=Tryz.zeroValue3
 t4:=Tryz.underlying4
 a4:=isAgg4
 z4:=sizeOf4
 v4:=Tryz.zeroValue4
 t5:=Tryz.underlying5
 a5:=isAgg5
 z5:=sizeOf5
 v5:=Tryz.zeroValue5
 t9:=Tryz.underlying9
 a9:=isAgg9
 z9:=sizeOf9
 v9:=Tryz.zeroValue9
 t22:=Tryz.underlying147
 a22:=Tryz.isAgg147
 z22:=Tryz.sizeOf147
 v22:=Tryz.zeroValue147
 t25:=Tryz.underlying167
 a25:=Tryz.isAgg167
 z25:=Tryz.sizeOf167
 v25:=Tryz.zeroValue167
 t39:=Tryz.underlying72
 a39:=isAgg72
 z39:=Tryz.sizeOf72
 v39:=Tryz.zeroValue72
 t45:=Tryz.underlying180
 a45:=Tryz.isAgg180
 z45:=Tryz.sizeOf180
 v45:=Tryz.zeroValue180
 t46:=Tryz.underlying181
 a46:=Tryz.isAgg181
 z46:=Tryz.sizeOf181
 v46:=Tryz.zeroValue181
 t50:=Tryz.underlying116
 a50:=Tryz.isAgg116
 z50:=Tryz.sizeOf116
 v50:=Tryz.zeroValue116
 t53:=underlying29
 a53:=isAgg29
 z53:=Tryz.sizeOf29
 v53:=Tryz.zeroValue29
 t55:=Tryz.underlying53
 a55:=isAgg53
 z55:=Tryz.sizeOf53
 v55:=Tryz.zeroValue53
 t66:=Tryz.underlying203
 a66:=Tryz.isAgg203
 z66:=Tryz.sizeOf203
 v66:=Tryz.zeroValue203
 t70:=Tryz.underlying207
 a70:=Tryz.isAgg207
 z70:=Tryz.sizeOf207
 v70:=Tryz.zeroValue207
 t76:=Tryz.underlying216
 a76:=Tryz.isAgg216
 z76:=Tryz.sizeOf216
 v76:=Tryz.zeroValue216
 t77:=Tryz.underlying217
 a77:=Tryz.isAgg217
 z77:=Tryz.sizeOf217
 v77:=Tryz.zeroValue217}
end Go.Proofs
namespace Go.Proofs.YtgboehkdijjnkaaGreatDoor
open Go.RowKit
open _root_.Array (length_toList toList)
open Go.BinOp (eql)
open _root_.Bool (not_eq_true')
open Go.Calls (mono)
open Go.Fence (wide)
open _root_.Function (comp_def)
open _root_.Int (natCast_nonneg toNat_natCast)
open Go.IntKind (i64 u32 u64 wrap)
open _root_.List (append_nil cons_append drop eq_nil_of_length_eq_zero ext_getElem? flatMap_cons flatten flatten_cons getElem?_cons_succ getElem?_cons_zero getElem?_eq_getElem getElem?_eq_none getElem?_map getElem?_set getElem?_take length length_append length_cons length_map length_mergeSort length_nil length_set length_take map_append map_cons map_map map_nil mem_cons mem_cons_of_mem mem_cons_self mem_map mem_map_of_mem mem_of_getElem? mem_singleton nodup_nil not_mem_nil setIfInBounds_toArray set_cons_succ set_cons_zero take_length take_succ_cons take_zero toArray zipWith)
open _root_.Nat (add_mul beq beq_refl le_refl le_trans mul_le_mul not_lt_zero zero_add zero_le)
open _root_.Option (getD_some map_some)
open Go.Sort (grow)
open Go.Proofs.Tryz (func100 func117 func118 func142 func143 func83 func92 isAgg0 isAgg29 isAgg3 isAgg4 isAgg5 isAgg53 isAgg72 isAgg9 prog sizeOf0 sizeOf3 sizeOf4 sizeOf5 sizeOf9 underlying130 underlying29)
open Go.World (cell?)
section
open Go.RowKit Go.Sort Go.Shelf
theorem qx (x y:Int × Int × Int):ltOf fB x y=true ↔ y.2.2<x.2.2∨(y.2.2=x.2.2∧(x.2.1<y.2.1∨(x.2.1=y.2.1∧x.1<y.1))):=by
 unfold ltOf fB
 simp only [lp,dw]
 by_cases a1:y.2.2<x.2.2
 ·simp [a1]
 ·by_cases a2:x.2.2<y.2.2
  ·simp [a1,a2];omega
  ·by_cases b1:x.2.1<y.2.1
   ·simp [a1,a2,b1];omega
   ·by_cases b2:y.2.1<x.2.1
    ·simp [a1,a2,b1,b2];omega
    ·by_cases c1:x.1<y.1
     ·simp [a1,a2,b1,b2,c1]
      try omega
     ·by_cases c2:y.1<x.1
      ·simp [a1,a2,b1,b2,c1,c2]
      ·simp [a1,a2,b1,b2,c1,c2]
theorem iv (x y:Int × Int × Int):ltOf fB x y=false ↔ ¬(y.2.2<x.2.2∨(y.2.2=x.2.2∧(x.2.1<y.2.1∨(x.2.1=y.2.1∧x.1<y.1)))):=by
 rw [←qx x y]
 simp
theorem E6:SWO (ltOf fB):=by
 refine ⟨λx=> ?_,λx y z h1 h2=> ?_,λx y z h1 h2=> ?_⟩
 ·rw [iv];omega
 ·rw [qx] at*;omega
 ·rw [iv] at*;omega
theorem BE (x y:Int × Int × Int)(h1:ltOf fB x y=false)(h2:ltOf fB y x=false):x=y:=by
 rw [iv] at h1 h2
 obtain ⟨a,b,c⟩:=x
 obtain ⟨a',b',c'⟩:=y
 simp only at h1 h2
 have:a=a'∧b=b'∧c=c':=by omega
 obtain ⟨rfl,rfl,rfl⟩:=this
 rfl
def fC (x:Int × Int × Int):List Value:= [.int .i64 x.1,.int .i64 x.2.1,.int .u64 x.2.2]
theorem E7 (blk off size:Nat)(w:World):CmpLays prog 92 #[] fC 3 fB blk off size w:=
 λ_ _ _ _ x y=>(He x y _).mono λ_ _ ⟨he,hg⟩=>⟨he,hg.grow⟩
def dn (l:List (Int × Int × Int)):List (Int × Int × Int):=l.mergeSort λx y=> !(ltOf fB) y x
theorem vO (l:List (Int × Int × Int)):(dn l).length=l.length:=length_mergeSort l
theorem iJ (x:Int × Int × Int):(fC x).length=3:=rfl
theorem vP (x:Int × Int × Int):∀v∈fC x,v.oneCell'=true:=by
 intro v hv
 simp [fC] at hv
 rcases hv with rfl | rfl | rfl<;>rfl
end
section
open Go.RowKit Go.Sort Go.Shelf
def bc (key:Int):Nat→List Bk→List Bk
 |_,[]=> []
 |k,b::r=>if 0<b.2.2 then ((k:Int),b.1,dh key b.1 b.2.2)::bc key (k+1) r else bc key (k+1) r
theorem re (key:Int):∀(l:List Bk) (k:Nat) (b:Bk),bc key k (l++ [b])=bc key k l++(if 0<b.2.2 then [(((k+l.length:Nat):Int),b.1,dh key b.1 b.2.2)] else [])
 |[],k,b=>by simp [bc]
 |a::r,k,b=>by
  have h:=re key r (k+1) b
  simp only [cons_append,bc,h,length_cons]
  have e:k+1+r.length=k+(r.length+1):=by omega
  rw [e]
  split<;>simp
theorem nU (key:Int):∀(l:List Bk) (k:Nat),(bc key k l).length≤l.length
 |[],_=>le_refl _
 |a::r,k=>by
  have h:=nU key r (k+1)
  simp only [bc]
  split<;>simp<;>omega
theorem BF (key:Int)(l:List Bk)(j:Nat)(b:Bk)(hb:l[j]?=some b):bc key 0 (l.take (j+1))=bc key 0 (l.take j)++(if 0<b.2.2 then [((j:Int),b.1,dh key b.1 b.2.2)] else []):=by
 have hj:=(List.getElem?_eq_some_iff.1 hb).1
 have e:l.take (j+1)=l.take j++ [b]:=by rw [List.take_add_one,hb];rfl
 rw [e,re]
 have:(l.take j).length=j:=by simp;omega
 rw [this];simp
def jz (pr s d sp dp:Int):Int:=tO [u64.wrap pr,u64.wrap s,u64.wrap d,u64.wrap sp,u64.wrap dp]
theorem Mg (pr s d sp dp:Int):VCalls prog 89 [KA pr s d sp dp] ⟨[],[]⟩ λx T'=>x=.val (.int .u64 (jz pr s d sp dp))∧T'=⟨[],[]⟩:=
 VCalls.of_grT (us:= [.agg #[.int .i64 pr,.int .u32 s,.int .u32 d,.int .i64 sp,.int .i64 dp]]) rfl (λw=>Md pr s d sp dp _ _ _ _ _ rfl rfl rfl rfl rfl w) _
theorem IG (key id wt:Int):VCalls prog 90 [.val (.int .u64 key),.val (.int .i64 id),.val (.int .i64 wt)] ⟨[],[]⟩ λx T'=>x=.val (.int .u64 (dh key id wt))∧T'=⟨[],[]⟩:=
 VCalls.of_gr (us:= [_,_,_]) (λw=>H3 key id wt w) _
theorem ko (L:List Bk):(L.map bw).flatten=(L.flatMap fC).map .val:=by
 induction L with
 |nil=>rfl
 |cons a L ih=>rw [map_cons,flatten_cons,ih,flatMap_cons,map_append];rfl
end
section
open Go.RowKit
def FreeT (x:TV):Prop:=∀g w g' w' u,(∀id b,g.obj id=some b→g'.obj id=some b)→VR g w x u→VR g' w' x u
theorem FreeT.val (v:Value):FreeT (.val v):=λ_ _ _ _ _ _ h=>by cases h;exact .val _
theorem FreeT.map (id:Nat):FreeT (.map id):=λ_ _ _ _ _ ho h=>by cases h with | map h=>exact .map (ho _ _ h)
theorem FreeT.agg {cs:List TV}(hc:∀c∈cs,FreeT c):FreeT (.agg cs):=λg w g' w' u ho h=>by
 cases h with
 |agg hl hv=>exact .agg hl λj x u hx hu=>hc x (mem_of_getElem? hx) g w g' w' u ho (hv j x u hx hu)
theorem nV {g g':Gh}{w w':World}{cs:List TV}{us:List Value}(hc:∀c∈cs,FreeT c)(ho:∀id b,g.obj id=some b→g'.obj id=some b)(h:VRs g w cs us):VRs g' w' cs us:=
 ⟨h.1,λj x u hx hu=>hc x (mem_of_getElem? hx) g w g' w' u ho (h.2 j x u hx hu)⟩
def wD:VO→Prop
 | .cells cs=>∀c∈cs,FreeT c
 | .row cs=>∀c∈cs,FreeT c
 | .map _ _ es _=>∀e∈es,FreeT e.2.1
 | .defd=>True
 | .gone=>True
 |_=>False
theorem Hf {g g':Gh}{w:World}{b:Nat}{o:VO}(ho:∀id b,g.obj id=some b→g'.obj id=some b)(hf:wD o)(h:OR g w b o):OR g' w b o:=by
 cases o with
 |cells cs=>obtain ⟨us,t,q1,q2,q3⟩:=h;exact ⟨us,t,q1,nV hf ho q2,q3⟩
 |row cs=>obtain ⟨us,t,q1,q2,q3,q4⟩:=h;exact ⟨us,t,q1,q2,nV hf ho q3,q4⟩
 |map sh look es ck=>
  obtain ⟨vs,q1,q2,q3,q4,q5,q6,q7⟩:=h
  refine ⟨vs,q1,q2,nV (λc hc=> ?_) ho q3,q4,q5,q6,q7⟩
  obtain ⟨e,he,rfl⟩:=mem_map.1 hc
  exact hf e he
 |iter m since seen stepped=>exact hf.elim
 |siter s pos=>exact hf.elim
 |loop st pend σ2 ps asg body=>exact hf.elim
 |defd=>exact h
 |gone=>trivial
theorem II {g0 g:Gh}{w0 w:World}{T0 T:VT}(e0:Evo g0 w0 g w)(r0:RW g0 T0 w0)(r:RW g T w){k e size:Nat}{es:List (List TV)}{u:Value}(hk:T0.tails.length≤k)(hT:T.tails[k]?=some (e,size,true))(hn:es.length=e)(hpos:0<e)
  (hs:VR g w (.vec size es (.tail k e)) u) (hes:∀c∈es.flatten,FreeT c) (hob:∀o∈T.objs,wD o) (hol:T0.objs.length≤T.objs.length):
  ∃g2,Evo g0 w0 g2 w∧RW g2 ⟨T.objs++ [.row es.flatten],T.tails.set k (e+1,size,false)⟩ w∧VR g2 w (.row size T.objs.length 0 es.length) u:=by
 obtain ⟨x,hxt,hxe,hxz,hxx⟩:=r.tl k _ hT
 simp only at hxe hxz
 obtain ⟨hxz,hxb⟩:=hxz
 have hes0:0<es.length:=by omega
 obtain ⟨b,o,c,us,rfl,a1,a2,a3,a4,a5,a6,a7,a8⟩:∃b o c us,u=.slice (some ⟨b,o,none⟩) es.length c∧es.length≤c∧c≤maxLen∧(∀e∈es,e.length=size)∧TokOk g w (.tail k e) size es.length b o c∧VRs g w es.flatten us∧(∀j,j<es.flatten.length→g.st b (o+j))∧(∀(j:Nat) v,us[j]?=some v→w.cell? ⟨b,o+j,none⟩=some v)∧∀u∈us,u.oneCell'=true:=by
  rcases hs.vec_inv with ⟨_,he,_⟩ | h | ⟨_,_,he,_⟩
  ·rw [he] at hes0;simp at hes0
  ·exact h
  ·rw [he] at hes0;simp at hes0
 obtain ⟨y,q1,q2,q3,_,q5⟩:=a4
 rw [hxt] at q1;injection q1 with q1;subst q1
 obtain ⟨_,q6⟩:=q5 hxe hxb
 obtain ⟨hxo,p1,p2,p3⟩:=q6 (by omega) (by omega)
 subst p1 p2
 obtain ⟨⟨cur,hblk,hcur⟩,hff,hfl,hlo,hnfr⟩:=r.own k x hxt hxo (by omega)
 have hw0:w0.heap.size≤x.b:=le_trans (e0.tnew k x (r0.tout k hk) hxt) hlo
 obtain ⟨g2,hg2⟩:∃g2:Gh,g2={g with obj:=λi=>if i=T.objs.length then some x.b else g.obj i,tail:=λi=>if i=k then some {x with lim:=x.f,own:=false,born:=false,e:=e+1} else g.tail i,st:=λb o=>g.st b o∧b≠x.b}:=⟨_,rfl⟩
 have gobj:∀id,id≠T.objs.length→g2.obj id=g.obj id:=λid h=>by rw [hg2];simp [h]
 have gnew:g2.obj T.objs.length=some x.b:=by rw [hg2];simp
 have oeq:∀id b,g.obj id=some b→g2.obj id=some b:=λid b h=>by
  rw [gobj id]; · exact h
  ·rintro rfl;rw [r.out _ (le_refl _)] at h;cases h
 have gfr:g2.fr=g.fr:=by rw [hg2]
 have gst:∀b o,g2.st b o→g.st b o∧b≠x.b:=λb o h=>by rw [hg2] at h;exact h
 have gtk:g2.tail k=some {x with lim:=x.f,own:=false,born:=false,e:=e+1}:=by rw [hg2];simp
 have gtn:∀j,j≠k→g2.tail j=g.tail j:=λj hj=>by rw [hg2];simp [hj]
 have hst0:∀b o,g0.st b o→b≠x.b:=λb o h hb=>by
  obtain ⟨u,hu⟩:=Option.isSome_iff_exists.1 (r0.st b o h)
  have:=gG hu
  simp at this;omega
 have ev:Evo g0 w0 g2 w:=by
  refine ⟨e0.os,e0.tape,e0.output,e0.size,λid b hb=>oeq id b (e0.obj id b hb),λb o h=>⟨?_,(e0.st b o h).2⟩,by rw [gfr];exact e0.fr,e0.frb,λb o hb h=>e0.frs b o hb (gst b o h).1,λj y hy=> ?_,λj y h1 h2=> ?_,e0.csz⟩
  ·rw [hg2];exact ⟨(e0.st b o h).1,hst0 b o h⟩
  ·have hj:j≠k:=by rintro rfl;rw [r0.tout j hk] at hy;cases hy
   rw [gtn j hj];exact e0.tail j y hy
  ·by_cases hj:j=k
   ·subst hj;rw [gtk] at h2;injection h2 with h2;subst h2;exact e0.tnew j x h1 hxt
   ·rw [gtn j hj] at h2;exact e0.tnew j y h1 h2
 have hobjne:∀(id:Nat) oo b,T.objs[id]?=some oo→oo.live=true→g.obj id=some b→b≠x.b:=λid oo b h1 h2 h3 hb=>r.tobj id oo b k x h1 h2 h3 hxt (.inr ⟨hxo,by omega,hb.symm⟩)
 have hasle:∀b,({x with lim:=x.f,own:=false,born:=false,e:=e+1}:Tl).has b→False:=λb h=>by
  rcases h with ⟨o,_,h1,h2⟩ | ⟨h,_⟩
  ·simp only at h1 h2;omega
  ·cases h
 have hob2:∀(id:Nat) oo,(T.objs++ [.row es.flatten])[id]?=some oo→(id<T.objs.length∧T.objs[id]?=some oo)∨(id=T.objs.length∧oo=.row es.flatten):=λid oo h=>by
  rcases Nat.lt_trichotomy id T.objs.length with h1 | h1 | h1
  ·rw [List.getElem?_append_left h1] at h;exact .inl ⟨h1,h⟩
  ·subst h1;simp at h;exact .inr ⟨rfl,h.symm⟩
  ·rw [getElem?_eq_none (by simp;omega)] at h;cases h
 have hfl3:=bs a3
 have hcl:cur.toList.length=c*size:=by rw [length_toList,hcur,p3]
 have hul:us.length=es.length*size:=by rw [a5.1,hfl3]
 have hle2:es.length*size≤c*size:=Nat.mul_le_mul_right _ a1
 have htake:cur.toList.take es.flatten.length=us:=by
  rw [hfl3]
  apply ext_getElem?
  intro j
  rw [getElem?_take]
  split
  ·rename_i hj
   have h9:us[j]?=some us[j]:=getElem?_eq_getElem (by omega)
   have h10:=a7 j us[j] h9
   rw [h9]
   simpa [cell?,hblk] using h10
  ·rename_i hj;rw [getElem?_eq_none (by omega)]
 have rw2:RW g2 ⟨T.objs++ [.row es.flatten],T.tails.set k (e+1,size,false)⟩ w:=by
  refine ⟨?_,?_,?_,?_,?_,?_,?_,?_,?_,?_,?_,?_⟩
  ·intro id oo h hl
   rcases hob2 id oo h with ⟨h0,h1⟩ | ⟨rfl,rfl⟩
   ·obtain ⟨b,h3,h4,h5,h6⟩:=r.obj id oo h1 hl
    exact ⟨b,by rw [gobj id (by omega)];exact h3,Hf oeq (hob oo (mem_of_getElem? h1)) h4,by rw [gfr];exact h5,λo hs=>h6 o (gst b o hs).1⟩
   ·refine ⟨x.b,gnew,⟨cur.toList,x.ty,by simpa using hblk,by rw [hfl3,hcl];exact hle2,?_,λu hu=> ?_⟩,by rw [gfr];exact hnfr,λo hs=>(gst _ o hs).2 rfl⟩
    ·rw [htake];exact nV hes oeq a5
    ·rw [htake] at hu;exact a8 u hu
  ·intro i j oi oj b hi li hj lj b1 b2
   rcases hob2 i oi hi with ⟨h0,h1⟩ | ⟨rfl,rfl⟩
   ·rw [gobj i (by omega)] at b1
    rcases hob2 j oj hj with ⟨h2,h3⟩ | ⟨rfl,rfl⟩
    ·rw [gobj j (by omega)] at b2
     exact r.inj i j oi oj b h1 li h3 lj b1 b2
    ·rw [gnew] at b2;injection b2 with b2;exact absurd b2.symm (hobjne i oi b h1 li b1)
   ·rw [gnew] at b1;injection b1 with b1
    rcases hob2 j oj hj with ⟨h2,h3⟩ | ⟨rfl,rfl⟩
    ·rw [gobj j (by omega)] at b2
     exact absurd b1.symm (hobjne j oj b h3 lj b2)
    ·rfl
  ·intro id hid
   simp only [length_append,length_cons,length_nil] at hid
   rw [gobj id (by omega)];exact r.out id (by omega)
  ·intro b o h;exact r.st b o (gst b o h).1
  ·intro b hb;rw [gfr] at hb;exact r.fr b hb
  ·intro j p h
   simp only [getElem?_set] at h
   split at h
   ·rename_i hj;subst hj
    split at h
    ·injection h with h;subst h
     exact ⟨_,gtk,rfl,⟨hxz,rfl⟩,λb o hin=>absurd (.inl ⟨o,hin⟩) (hasle b)⟩
    ·cases h
   ·rename_i hj
    obtain ⟨y,q1,q2,q3,q4⟩:=r.tl j p h
    have hj':j≠k:=λh=>hj h.symm
    refine ⟨y,by rw [gtn j hj'];exact q1,q2,q3,λb o hin=> ?_⟩
    obtain ⟨s1,s2,s3,s4⟩:=q4 b o hin
    exact ⟨s1,s2,λhs=>s3 (gst b o hs).1,by rw [gfr];exact s4⟩
  ·intro j hj
   simp only [length_set] at hj
   have hlt:=kw r hxt
   rw [gtn j (by omega)];exact r.tout j hj
  ·intro i j y z b h1 h2 i1 i2
   by_cases hi:i=k
   ·subst hi;rw [gtk] at h1;injection h1 with h1;subst h1;exact (hasle b i1).elim
   ·by_cases hj:j=k
    ·subst hj;rw [gtk] at h2;injection h2 with h2;subst h2;exact (hasle b i2).elim
    ·rw [gtn i hi] at h1;rw [gtn j hj] at h2;exact r.tinj i j y z b h1 h2 i1 i2
  ·intro i oi b j y hi li b1 hy hin
   by_cases hj:j=k
   ·subst hj;rw [gtk] at hy;injection hy with hy;subst hy;exact (hasle b hin).elim
   ·rw [gtn j hj] at hy
    rcases hob2 i oi hi with ⟨h0,h1⟩ | ⟨rfl,rfl⟩
    ·rw [gobj i (by omega)] at b1;exact r.tobj i oi b j y h1 li b1 hy hin
    ·rw [gnew] at b1;injection b1 with b1;subst b1
     exact hj (r.tinj j k y x x.b hy hxt hin (.inr ⟨hxo,by omega,rfl⟩))
  ·intro j y hy d1 d2
   by_cases hj:j=k
   ·subst hj;rw [gtk] at hy;injection hy with hy;subst hy;cases d1
   ·rw [gtn j hj] at hy
    obtain ⟨s1,s3,s4,s5,s6⟩:=r.own j y hy d1 d2
    exact ⟨s1,s3,s4,s5,by rw [gfr];exact s6⟩
  ·intro j y hy d1
   by_cases hj:j=k
   ·subst hj;rw [gtk] at hy;injection hy with hy;subst hy;rcases d1 with d1 | d1<;>cases d1
   ·rw [gtn j hj] at hy;exact r.own0 j y hy d1
  ·intro j y hy
   by_cases hj:j=k
   ·subst hj;rw [gtk] at hy;injection hy with hy;subst hy;exact r.tlo j x hxt
   ·rw [gtn j hj] at hy;exact r.tlo j y hy
 refine ⟨g2,ev,rw2,?_⟩
 have:=VR.row (g:=g2) (w:=w) (size:=size) (id:=T.objs.length) (off:=0) (n:=es.length) (c:=c) gnew (by have:=r.own k x hxt hxo (by omega);exact (Array.getElem?_eq_some_iff.1 hblk).1) a1 a2 (by rw [aY hblk,hcur,p3];simp)
 simpa using this
theorem BG {n slot:Nat}{x:TV}{g:Gh}{w:World}{us:List Value}{u:Value}(hl:us.length=n)(hu:us[slot]?=some u)(hx:VR g w x u):VRs g w (ay n [slot] [x]) us:=by
 refine ⟨by simp [ay,jx,g9,hl],λj y v hy hv=> ?_⟩
 simp only [ay,jx,g9,map_map,getElem?_map,Option.map_eq_some_iff] at hy
 obtain ⟨i,hi,rfl⟩:=hy
 have e:i=j:=by
  have:=(List.getElem?_eq_some_iff.1 hi).2
  simpa using this.symm
 subst e
 simp only [Function.comp_apply,qr]
 cases hb:beq slot i with
 |true=>
  have:=Nat.eq_of_beq_eq_true hb
  subst this
  rw [hu] at hv;injection hv with hv;subst hv
  exact hx
 |false=>exact .dead _
section
variable {P:Program}{G:aD}
def uJ (n:Nat)(keys:List Nat)(ad:List (Nat × Nat))(vs0:List TV)(T0 T1:VT)(slot k size:Nat)(es:List (List TV)):bH:=λrd ro σ T D K=>(rd=none∧ro=0∧D= []∧qv ad σ∧(eP ad σ T).2=T0∧beq σ.length n=true∧pick keys (eP ad σ T).1=vs0∧Nat.ble T.tails.length k=true)∧
 K .normal (ay n [slot] [.row size T1.objs.length 0 es.length]) ⟨T1.objs++ [.row es.flatten],T1.tails.set k (es.length+1,size,false)⟩ []
theorem tu {c:Code}{n:Nat}{keys:List Nat}{ad:List (Nat × Nat)}{vs0 vs1:List TV}{T0 T1:VT}{slot k size:Nat}{es:List (List TV)}(hs:(ay n keys vs1)[slot]?=some (.vec size es (.tail k es.length)))(hT:T1.tails[k]?=some (es.length,size,true))(hpos:0<es.length)
  (hes:∀c∈es.flatten,FreeT c) (hob:∀o∈T1.objs,wD o) (h:∀K,K .normal (ay n keys vs1) T1 []→VWx P G none 0 c (ay n keys vs0) T0 [] K):
  ∀rd ro σ T D K,uJ n keys ad vs0 T0 T1 slot k size es rd ro σ T D K→VWx P G rd ro c σ T D K:=by
 rintro rd ro σ T D K ⟨⟨h1,h2,h3,h4,h5,h6,h7,hk⟩,hK⟩
 have hl:=dA (n:=n) (keys:=keys) (ad:=ad) (vs0:=vs0) (T0:=T0) (R:=λK=>K .normal (ay n keys vs1) T1 []) h rd ro σ T D (λe σ' T' D'=>e=.normal∧σ'=ay n keys vs1∧T'=T1∧D'= []) ⟨⟨h1,h2,h3,h4,h5,h6,h7⟩,rfl,rfl,rfl,rfl⟩
 subst h1 h2 h3
 have hn:=Nat.eq_of_beq_eq_true h6
 intro r g w a rw0 hG hσ hd hD hr
 refine wpIn_mono (hl r g w a rw0 hG hσ hd hD hr) ?_
 rintro e a' w' ⟨g',σ',T',D',⟨rfl,rfl,rfl,rfl⟩,e',r',hσ',hd',_,fx⟩
 obtain ⟨u,hu,hv⟩:=hσ'.at hs
 obtain ⟨g2,ev,rw2,v2⟩:=II e' rw0 r' (Nat.le_of_ble_eq_true hk) hT rfl hpos hv hes hob fx.len
 refine ⟨g2,_,_,[],hK,ev,rw2,BG ?_ hu v2,hd',(λid hid=>by cases hid),⟨?_,λi hi=>absurd hi (not_lt_zero i),λi o b hi=>absurd hi (not_lt_zero i)⟩⟩
 ·rw [hσ'.1];simp [ay,jx,g9]
 ·have:=fx.len
  simp only [length_append,length_cons,length_nil];omega
theorem ne (size:Nat):∀{es:List (List TV)},(∀e∈es,e.length=size)→dr size es.length es.flatten=es
 |[],_=>rfl
 |e::es,h=>by
  have h1:e.length=size:=h e mem_cons_self
  have h2:=ne size (es:=es) λe he=>h e (mem_cons_of_mem _ he)
  simp only [length_cons,dr,flatten_cons]
  rw [List.take_left' h1,List.drop_left' h1,h2]
theorem kp {T:VT}{size id:Nat}{es:List (List TV)}(ho:T.objs[id]?=some (.row es.flatten))(hz:∀e∈es,e.length=size):cl T size (.row size id 0 es.length)=some es:=by
 have hl:=bs hz
 have e1:((es.flatten.drop (0*size)).take (es.length*size))=es.flatten:=by
  rw [Nat.zero_mul,List.drop_zero,←hl,take_length]
 simp only [cl,ho]
 rw [e1,ne size hz,beq_refl,zero_add,hl,Nat.ble_eq_true_of_le (le_refl _)]
 rfl
theorem VCx.freeze {f:FuncId}{xs:List TV}{T:VT}{size:Nat}{es:List (List TV)}{Q:VT→Prop}(h:VCx P G 0 f xs T λx T'=>∃id off n,x=.row size id off n∧cl T' size (.row size id off n)=some es∧Q (T'.kill id)):
  VCx P G 0 f xs T λx T'=>x=.vec size es .none∧Q T':=by
 intro g w us rw0 hG hx
 refine Calls.mono (h g w us rw0 hG hx) ?_
 rintro e w' ⟨v,x,g',T',he,⟨id,off,n,rfl,h1,hq⟩,e',r',hv,hfx⟩
 obtain ⟨g2,e2,r2,v2⟩:=nN r' h1 hv
 refine ⟨v,_,g2,_,he,⟨rfl,hq⟩,e'.trans e2,r2,v2,⟨?_,λi hi=>absurd hi (not_lt_zero i),λi o b hi=>absurd hi (not_lt_zero i)⟩⟩
 have:=hfx.len
 simp only [VT.kill,length_set];exact this
end
end
section
open Go.RowKit
abbrev j8:=76
abbrev pA:=92
abbrev IJ:=89
abbrev LH:=90
abbrev zR:=91
abbrev C3:=39
def bQ (p s d sp dp:Int):List TV:= [.val (.int .i64 p),.val (.int .u32 s),.val (.int .u32 d),.val (.int .i64 sp),.val (.int .i64 dp)]
def BH (i a c:Int):List TV:= [.val (.int .i64 i),.val (.int .u32 a),.val (.int .i64 c)]
def yh (k i z:Int):List TV:= [.val (.int .i64 k),.val (.int .i64 i),.val (.int .u64 z)]
def E8 (fl:List TV)(key:Int):ba:=hJ [.agg fl] (.val (.int .u64 key))
def BI (key:Int)(sc:Int→Int→Int):ba:=λ_ ys T K=>match ys with
 |[.val (.int .u64 k),.val (.int .i64 i),.val (.int .i64 w)]=>k=key∧K (.val (.int .u64 (sc i w))) T
 |_=>aG 85 default ys
def LI (T1 T2:VT)(n:Nat):ba:=λro ys T K=>(ro=0∧ys= [.row 3 1 0 n,.fn (.func pA) [] []]∧T=T1)∧K (.val (.tuple #[])) T2
def IK:ba:=λro ys T K=>(ro=0∧ys= [.vec 3 [] (.tail 0 0),.fn (.func pA) [] []])∧K (.val (.tuple #[])) T
def vQ:List Nat:= [1,5,6,11,12,13]
def pB (key:Int)(B L:List (List TV))(j:Int):List TV:= [.vec 3 B .none,.val (.int .u64 key),.vec 3 L (.tail 0 L.length),.vec 3 B .none,.val (.int .i64 B.length),.val (.int .i64 j)]
def rf (fl:List TV)(n:Nat):VT:=⟨[.cells fl],[(n,3,true)]⟩
def nW (fl:List TV)(n:Nat)(cs:List TV):VT:=⟨[.cells fl,.row cs],[(n+1,3,false)]⟩
def Mh (fl:List TV)(key:Int)(B:List (List TV))(c0:Code):Nat→Option (bH × Code):=dk [(0,ig 38 vQ [(6,3)] (pB key B [] 0) (rf fl 0) λK=>K .normal (ay 38 vQ (pB key B [] B.length)) (rf fl 0) [],c0)]
def IL (fl:List TV)(key:Int)(B L:List (List TV))(c0:Code):Nat→Option (bH × Code):=dk [(0,uJ 38 vQ [(6,3)] (pB key B [] 0) (rf fl 0) (rf fl L.length) 6 0 3 L,c0)]
theorem IM (p s d sp dp key:Int)(B:List (List TV))(Q:TV→VT→Prop):aH prog ae (az [(IJ,E8 (bQ p s d sp dp) key),(zR,IK)]) bx 300 (Mh (bQ p s d sp dp) key B (ax prog j8 0)) 0 j8 [.agg (bQ p s d sp dp),.vec 3 B .none] jk Q=
 ((@Eq (List TV) (Bv p s d sp dp) (Bv p s d sp dp))∧
 ((ax prog j8 (0:Nat)=ax prog j8 (0:Nat))∧
 (((@Eq (Option Nat) .none .none)∧
 ((@Eq (Nat) 0 0)∧
 ((@Eq (List Nat) [] [])∧
 (((@Eq (Option TV) (.some ep) (.some ep))∧
 True)∧
 ((@Eq (VT) (ut p s d sp dp [(0,(3,true))]) (ut p s d sp dp [(0,(3,true))]))∧
 ((@Eq (Bool) true true)∧
 (@Eq (List TV) (Bu B key B (↑(length B):Int)) (Bu B key B (↑(length B):Int)))))))))∧
 (((@Eq (Nat) 0 0)∧
 (@Eq (List TV) [j4,(.fn (.func 92) [] [])] [j4,(.fn (.func 92) [] [])]))∧
 Q j4 (ut p s d sp dp [(0,(3,true))]))))):=by kernel_rfl
theorem IN (p s d sp dp key:Int)(B L LS:List (List TV))(Q:TV→VT→Prop):aH prog ae (az [(IJ,E8 (bQ p s d sp dp) key),(zR,LI (nW (bQ p s d sp dp) L.length L.flatten) (nW (bQ p s d sp dp) L.length LS.flatten) L.length)]) bx 300 (IL (bQ p s d sp dp) key B L (ax prog j8 0)) 0 j8 [.agg (bQ p s d sp dp),.vec 3 B .none] jk Q=
 ((@Eq (List TV) (Bv p s d sp dp) (Bv p s d sp dp))∧
 ((ax prog j8 (0:Nat)=ax prog j8 (0:Nat))∧
 (((@Eq (Option Nat) .none .none)∧
 ((@Eq (Nat) 0 0)∧
 ((@Eq (List Nat) [] [])∧
 (((@Eq (Option TV) (.some ep) (.some ep))∧
 True)∧
 ((@Eq (VT) (ut p s d sp dp [(0,(3,true))]) (ut p s d sp dp [(0,(3,true))]))∧
 ((@Eq (Bool) true true)∧
 ((@Eq (List TV) (Bu B key B (↑(length B):Int)) (Bu B key B (↑(length B):Int)))∧
 (@Eq (Bool) true true))))))))∧
 (((@Eq (Nat) 0 0)∧
 ((@Eq (List TV) [(.row 3 1 0 (length L)),(.fn (.func 92) [] [])] [(.row 3 1 0 (length L)),(.fn (.func 92) [] [])])∧
 (@Eq (VT) (EW p s d sp dp (flatten L) [((length L+(1:Nat)),(3,false))]) (EW p s d sp dp (flatten L) [((length L+(1:Nat)),(3,false))]))))∧
 Q (.row 3 1 0 (length L)) (EW p s d sp dp (flatten LS) [((length L+(1:Nat)),(3,false))]))))):=by kernel_rfl
theorem C4 (p s d sp dp key i a c:Int)(sc:Int→Int→Int)(B L:List (List TV))(j:Nat)(Q:Exit→List TV→VT→List Nat→Nat→Prop):vx prog ae (az [(LH,BI key sc)]) (bp [(999998,.dead,none),(16,.elt (BH i a c),none),(33,.vec 3 (L++ [yh j i (sc i c)]) (.tail 0 (L.length+1)),some λT=>{T with tails:= [(L.length+1,3,true)]})]) 300 bo none 0 (dj prog j8 0) (ay 38 vQ (pB key B L j)) (rf (bQ p s d sp dp) L.length) [] (dm vQ Q)=
 (bif decide ((↑j:Int)<(↑(length B):Int))
 then (aJ prog (λ_=>.none) (.indexAddr 22 (.tmp 11) (.tmp 13)) [(11,(c9 B)),(13,(ar (↑j:Int)))] (xN i a c)∧
 (bif decide (c>(0:Int))
 then ((@Eq (Int) (key) (key))∧
 (aM prog (λ_=>.none) 0 (Bt p s d sp dp i a c [((length L),(3,true))]) (.call ⟨(.builtin .append),#[(.tmp 21),(.tmp 32)],#[147,147]⟩) [(21,(gz L (length L))),(32,(.vec 3 [[(.val (.int .i64 ((↑j:Int)))),(.val (.int .i64 (i))),(.val (.int .u64 (sc i c)))]] .full))] (gz (L++ [yh (↑j:Int) i (sc i c)]) (length L+(1:Nat))) (Bt p s d sp dp i a c [((length L+(1:Nat)),(3,true))])∧
 Q .normal [(c9 B),(.val (.int .u64 key)),(gz (L++ [yh (↑j:Int) i (sc i c)]) (length L+(1:Nat))),(c9 B),(ar (↑(length B):Int)),(ar (wrap i64 ((↑j:Int)+(1:Int))))] (Bt p s d sp dp i a c [((length L+(1:Nat)),(3,true))]) [] 38))
 else Q .normal [(c9 B),(.val (.int .u64 key)),(gz L (length L)),(c9 B),(ar (↑(length B):Int)),(ar (wrap i64 ((↑j:Int)+(1:Int))))] (Bt p s d sp dp i a c [((length L),(3,true))]) [] 38))
 else Q (.exit 0) [(c9 B),(.val (.int .u64 key)),(gz L (length L)),(c9 B),(ar (↑(length B):Int)),(ar (↑j:Int))] (ut p s d sp dp [((length L),(3,true))]) [] 38):=by kernel_rfl
theorem IP (p s d sp dp:Int)(B:List (List TV))(Q:TV→VT→Prop):aH prog ae (az [(j8,hJ [.agg (bQ p s d sp dp),.vec 3 B .none] (.vec 3 [] .none))]) bx 300 bo 0 C3 [.agg (bQ p s d sp dp),.vec 3 B .none] jk Q=
 ((@Eq (List TV) (ur p s d sp dp B) (ur p s d sp dp B))∧
 Q Ih ⟨[(iY p s d sp dp),Ig],[]⟩):=by kernel_rfl
theorem IQ (p s d sp dp k i z i' a' c':Int)(B L:List (List TV))(Q:TV→VT→Prop):aH prog ae (az [(j8,hJ [.agg (bQ p s d sp dp),.vec 3 B .none] (c9 (yh k i z::L)))]) (bp [(16,.elt (yh k i z),none),(19,.elt (BH i' a' c'),none)]) 300 bo 0 C3 [.agg (bQ p s d sp dp),.vec 3 B .none] jk Q=
 ((@Eq (List TV) (ur p s d sp dp B) (ur p s d sp dp B))∧
 (aJ prog (λ_=>.none) (.indexAddr 147 (.tmp 15) (.const (.int .i64 0))) [(15,(c9 ([[(.val (.int .i64 (k))),(.val (.int .i64 (i))),(.val (.int .u64 (z)))]]++L)))] (.elt [(ar k),(ar i),(.val (.int .u64 z))])∧
 (aJ prog (λ_=>.none) (.indexAddr 22 (.tmp 14) (.tmp 18)) [(14,(c9 B)),(18,(ar k))] (xN i' a' c')∧
 Q (.tup [(xP i' a' c'),ip]) ⟨[(iY p s d sp dp),(nP i' a' c')],[]⟩))):=by kernel_rfl
end
section
open Go.RowKit Go.Maps Go.Sort
def tw (a b:aN):Bool:=decide (a.2.2<b.2.2) || (decide (a.2.2=b.2.2)&&decide (a.1≤b.1))
def mE (R:cP)(n:Int)(s:aN):Bool:=decide (0<ll R s.1 n)
def eW (S:List aN)(R:cP)(n:Int):List aN:=(bD S).filter (mE R n)
def dq (S:List aN)(R:cP)(n:Int):List aN:=(eW S R n).mergeSort tw
theorem C5 {l:List aN}{R:cP}{n:Int}{j:Nat}{s:aN}(h:l[j]?=some s):(l.take (j+1)).filter (mE R n)=(l.take j).filter (mE R n)++(if mE R n s then [s] else []):=by
 rw [List.take_add_one,h,List.filter_append]
 cases hc:mE R n s<;>simp [hc]
theorem E9 (l:List aN)(R:cP)(n:Int)(j:Nat):((l.take j).filter (mE R n)).length≤l.length:=le_trans (List.length_filter_le _ _) (by simp;omega)
end
section
open Go.RowKit
abbrev jQ:=53
def mF:List Nat:= [0,1,4,5,10,11,12]
def jl (n:Int)(A L:List (List TV))(j:Int):List TV:= [.ptr 0 0,.val (.int .i64 n),.val (.slice none 0 0),.vec 3 L (.tail 0 L.length),.vec 3 A .none,.val (.int .i64 A.length),.val (.int .i64 j)]
def lq (lk lk2:Value→Option TV)(es es2:List (Value × TV × Nat))(ck ck2 n:Nat):VT:=⟨[.cells [.map 1,.map 2],.map kI lk es ck,.map kI lk2 es2 ck2],[(n,3,true)]⟩
def LJ (os:List VO)(i n c:Int):ba:=λro ys T K=>(ro=0∧ys= [.ptr 0 0,.val (.int .i64 i),.val (.int .i64 n)]∧T.objs.take 3=os)∧K (.val (.int .i64 c)) T
theorem C6 (lk lk2:Value→Option TV)(es es2:List (Value × TV × Nat))(ck ck2:Nat)(A L:List (List TV))(n i a c p:Int)(j:Nat)(Q:Exit→List TV→VT→List Nat→Nat→Prop):vx prog ae (az [(FP,LJ (sT lk lk2 es es2 ck ck2).objs i n p)]) (bp [(999998,.dead,none),(14,.elt (dd i a c),none),(25,.vec 3 (L++ [dd i a c]) (.tail 0 (L.length+1)),some λT=>{T with tails:= [(L.length+1,3,true)]})]) 300 bo none 0 (dj prog jQ 0) (ay 31 mF (jl n A L j)) (lq lk lk2 es es2 ck ck2 L.length) [] (dm mF Q)=
 (bif decide ((↑j:Int)<(↑(length A):Int))
 then (aJ prog (λ_=>.none) (.indexAddr 24 (.tmp 10) (.tmp 12)) [(10,(c9 A)),(12,(ar (↑j:Int)))] (xN i a c)∧
 (((@Eq (Nat) 0 0)∧
 ((@Eq (List TV) [dZ,(ar i),(ar n)] [dZ,(ar i),(ar n)])∧
 (@Eq (List VO) [(ce (.map 1) (.map 2)),(.map ⟨false,[(.int .i64)]⟩ (lk) (es) (ck)),(.map ⟨false,[(.int .i64)]⟩ (lk2) (es2) (ck2))] [(ce (.map 1) (.map 2)),(.map ⟨false,[(.int .i64)]⟩ (lk) (es) (ck)),(.map ⟨false,[(.int .i64)]⟩ (lk2) (es2) (ck2))])))∧
 (bif decide (p>(0:Int))
 then (aM prog (λ_=>.none) 0 (Br (.map 1) (.map 2) (.map ⟨false,[(.int .i64)]⟩ (lk) (es) (ck)) (.map ⟨false,[(.int .i64)]⟩ (lk2) (es2) (ck2)) i a c [((length L),(3,true))]) (.call ⟨(.builtin .append),#[(.tmp 22),(.tmp 24)],#[24,24]⟩) [(22,(gz L (length L))),(24,(.vec 3 [[(.val (.int .i64 (i))),(.val (.int .u32 (a))),(.val (.int .i64 (c)))]] .full))] (gz (L++ [dd i a c]) (length L+(1:Nat))) (Br (.map 1) (.map 2) (.map ⟨false,[(.int .i64)]⟩ (lk) (es) (ck)) (.map ⟨false,[(.int .i64)]⟩ (lk2) (es2) (ck2)) i a c [((length L+(1:Nat)),(3,true))])∧
 Q .normal (EV n (L++ [dd i a c]) (length L+(1:Nat)) A (↑(length A):Int) (wrap i64 ((↑j:Int)+(1:Int)))) (Br (.map 1) (.map 2) (.map ⟨false,[(.int .i64)]⟩ (lk) (es) (ck)) (.map ⟨false,[(.int .i64)]⟩ (lk2) (es2) (ck2)) i a c [((length L+(1:Nat)),(3,true))]) [] 31)
 else Q .normal (EV n L (length L) A (↑(length A):Int) (wrap i64 ((↑j:Int)+(1:Int)))) (Br (.map 1) (.map 2) (.map ⟨false,[(.int .i64)]⟩ (lk) (es) (ck)) (.map ⟨false,[(.int .i64)]⟩ (lk2) (es2) (ck2)) i a c [((length L),(3,true))]) [] 31)))
 else Q (.exit 0) (EV n L (length L) A (↑(length A):Int) (↑j:Int)) ⟨[(ce (.map 1) (.map 2)),(.map ⟨false,[(.int .i64)]⟩ (lk) (es) (ck)),(.map ⟨false,[(.int .i64)]⟩ (lk2) (es2) (ck2))],[((length L),(3,true))]⟩ [] 31):=by kernel_rfl
end
section
open Go.RowKit Go.Maps Go.Sort
theorem C7 {lk lk2:Value→Option TV}{es es2:List (Value × TV × Nat)}{ck ck2:Nat}{S:List aN}{st:List Nat}{R:cP}(h:SitesOk lk es ck S st)(h2:RepsOk lk2 es2 R)(i n:Int):
  ∀ro ys T K,LJ (sT lk lk2 es es2 ck ck2).objs i n (ll R i n) ro ys T K→VCx prog ae ro FP ys T K:=by
 rintro ro ys ⟨os,tl⟩ K ⟨⟨rfl,rfl,hos⟩,hk⟩
 have q1:=h.ren (aj [0,1,2]) (aj [])
 have q2:=h2.ren ck2 (aj [0,1,2]) (aj [])
 match os,hos with
 |o0::o1::o2::l,hos=>
  simp only [take_succ_cons,take_zero,sT,List.cons.injEq,and_true] at hos
  obtain ⟨rfl,rfl,rfl⟩:=hos
  refine (VCx.lift (xs:= [.ptr 0 0,.val (.int .i64 i),.val (.int .i64 n)]) [0,1,2] [] bg (by decide) nodup_nil (λk hk=> ?_) (by simp) (λ_ _=>zero_le _) rfl ?_ (Q:=λx T'=>x=.val (.int .i64 (ll R i n))∧T'=sT lk lk2 es es2 ck ck2) (λx T' hq=> ?_)).mono ?_
  ·simp only [mem_cons,not_mem_nil,or_false] at hk
   rcases hk with rfl | rfl | rfl
   ·exact ⟨_,rfl,rfl⟩
   ·exact ⟨_,rfl,rfl⟩
   ·exact ⟨_,rfl,rfl⟩
  ·have hg:VT.give ⟨.cells [.map 1,.map 2]:: .map kI lk es ck:: .map kI lk2 es2 ck2::l,tl⟩ [0,1,2] []=sT lk lk2 es es2 ck ck2:=by
    simp only [VT.give,map_cons,map_nil,getElem?_cons_zero,getElem?_cons_succ,getD_some,q1,q2,sT]
    rfl
   rw [hg]
   exact It h h2 i n
  ·rw [hq.2];exact ⟨le_refl 3,zero_le _⟩
  ·rintro x T' ⟨y,T2,⟨rfl,rfl⟩,rfl,rfl⟩
   have r1:=h.ren (an (l.length+1+1+1) [0,1,2]) (an tl.length [])
   have r2:=h2.ren ck2 (an (l.length+1+1+1) [0,1,2]) (an tl.length [])
   have hb:VT.back ⟨.cells [.map 1,.map 2]:: .map kI lk es ck:: .map kI lk2 es2 ck2::l,tl⟩ [0,1,2] [] (sT lk lk2 es es2 ck ck2)=⟨.cells [.map 1,.map 2]:: .map kI lk es ck:: .map kI lk2 es2 ck2::l,tl⟩:=by
    simp only [VT.back,sT,length_cons,map_cons,map_nil,r1,r2,aT]
    simp [aT,VO.ren,TV.ren,av,an]
   rw [hb]
   exact hk
end
set_option maxRecDepth 100000
section
open Go.RowKit Go.Maps Go.Sort
def Mi (lk lk2:Value→Option TV)(es es2:List (Value × TV × Nat))(ck ck2:Nat)(n:Int)(A L:List (List TV))(c0:Code):Nat→Option (bH × Code):=dk [(0,ig 31 mF [(5,3)] (jl n A [] 0) (lq lk lk2 es es2 ck ck2 0) λK=>K .normal (ay 31 mF (jl n A L A.length)) (lq lk lk2 es es2 ck ck2 L.length) [],c0)]
theorem BJ {x i:Operand}{l:List (Nat × TV)}{L:List (List TV)}{tok:Tok}{k:IntKind}{z:Int}{e:List TV}(hx:aq ae l x=.vec 3 L tok)(hz:aq ae l i=.val (.int k z))(h0:0≤z)(he:L[z.toNat]?=some e):
  aJ prog ae (.indexAddr 24 x i) l (.elt e):=by
 obtain ⟨inf,i_at,i_size,_,_⟩:=nS
 exact dN (inf:=inf) Tryz.underlying24 i_at (by rw [i_size];exact hx) hz h0 he
theorem fD (f g:Nat→Option Nat):∀l:List aN,bL f g (l.map be)=l.map be
 |[]=>rfl
 |a::l=>by simp only [map_cons,bL,fD f g l];rfl
theorem yi {lk lk2:Value→Option TV}{es es2:List (Value × TV × Nat)}{ck ck2:Nat}{S:List aN}{st:List Nat}{R:cP}(h:SitesOk lk es ck S st)(h2:RepsOk lk2 es2 R)(n:Int)(K:KX)
  (hK:K .normal (ay 31 mF (jl n ((bD S).map be) ((eW S R n).map be) ((bD S).map be).length)) (lq lk lk2 es es2 ck ck2 ((eW S R n).map be).length) []):VWx prog ae none 0 (ax prog jQ 0) (ay 31 mF (jl n ((bD S).map be) [] 0)) (lq lk lk2 es es2 ck ck2 0) [] K:=by
 have hfew:=h.few
 have hlb:(bD S).length≤8:=by unfold bD;rw [length_map,mc];exact hfew
 have e1:=h.ren (ai 3) (ai 1)
 have e2:=h2.ren ck2 (ai 3) (ai 1)
 unfold kI at e1 e2
 let B:=bD S
 have hBl:B.length≤8:=hlb
 let F:Nat→List aN:=λj=>(B.take j).filter (mE R n)
 let sl:Nat→List TV:=λj=>jl n (B.map be) ((F j).map be) j
 let TT:Nat→VT:=λj=>lq lk lk2 es es2 ck ck2 ((F j).map be).length
 let Post:Exit→List TV→VT→Prop:=λe vs T=>e=.normal∧vs=sl B.length∧T=TT B.length
 refine fv (f:=jQ) (id:=0) (by kernel_rfl) 31 mF (λj=>B.length-j) sl TT (λj=>j≤B.length) 3 1 (λ_ _=>⟨le_refl _,le_refl _⟩)
  Post (λj hj=> ?_) 0 (zero_le _) K (λe vs T ⟨h1,h2,h3⟩=> ?_)
 ·by_cases hlt:j<B.length
  ·have hs:B[j]?=some B[j]:=getElem?_eq_getElem hlt
   generalize B[j]=s at hs
   obtain ⟨i,a,c⟩:=s
   have hw:=fV j (by omega)
   have hstep:=C5 (R:=R) (n:=n) hs
   have hfl:=E9 B R n j
   refine cn ah ag (aE λp hp=>by obtain rfl:=mem_singleton.1 hp;exact C7 h h2 i n) ak (C6 lk lk2 es es2 ck ck2 (B.map be) ((F j).map be) n i a c (ll R i n) j _) ?_
   refine aZ (decide_eq_true (by rw [length_map];omega)) ⟨BJ rfl rfl (natCast_nonneg _) (by simp only [toNat_natCast];rw [getElem?_map,hs];rfl),⟨rfl,rfl,rfl⟩,?_⟩
   cases hc:decide (ll R i n>0)
   ·have hcan:mE R n (i,a,c)=false:=hc
    have hF:F (j+1)=F j:=by simp only [F];rw [hstep,hcan];simp
    refine aA rfl ⟨rfl,rfl,j+1,hlt,by simp only;omega,.inr ⟨?_,?_⟩⟩
    ·simp only [VT.keep,take_succ_cons,take_zero,map_cons,map_nil,e1,e2]
     simp only [TT,hF,lq,length_map,length_append,map_append]
     rfl
    ·simp only [av,TV.ren,fD,Tok.ren,ai]
     simp only [sl,jl,hF,hw,length_map,length_append,map_append]
     rfl
   ·have hcan:mE R n (i,a,c)=true:=hc
    have hF:F (j+1)=F j++ [(i,a,c)]:=by simp only [F];rw [hstep,hcan];simp
    have hra:bL (ai 3) (ai 1) ((F j).map be++ [dd i a c])=(F j).map be++ [dd i a c]:=by have q:=fD (ai 3) (ai 1) (F j++ [(i,a,c)]);rw [map_append] at q;exact q
    have hfl2:(F j).length≤8:=le_trans hfl hBl
    refine aZ rfl ⟨th (es2:= [dd i a c]) (T1:=⟨[.cells [.map 1,.map 2],.map kI lk es ck,.map kI lk2 es2 ck2,.cells (dd i a c)],[(((F j).map be).length,3,true)]⟩) (by simp [aq,dU,cw,kI];rfl) rfl (by simp only [length_cons,length_nil,length_map];omega),rfl,rfl,j+1,hlt,by simp only;omega,.inr ⟨?_,?_⟩⟩
    ·simp only [VT.keep,take_succ_cons,take_zero,map_cons,map_nil,e1,e2]
     simp only [TT,hF,lq,length_map,length_append,map_append]
     rfl
    ·simp only [av,TV.ren,fD,hra,Tok.ren,ai]
     simp only [sl,jl,hF,hw,length_map,length_append,map_append]
     rfl
  ·obtain rfl:j=B.length:=by omega
   refine cn ah ag (aE λp hp=>by obtain rfl:=mem_singleton.1 hp;exact C7 h h2 0 n) ak (C6 lk lk2 es es2 ck ck2 (B.map be) ((F B.length).map be) n 0 0 0 (ll R 0 n) B.length _) ?_
   exact aA (decide_eq_false (by rw [length_map];omega)) ⟨rfl,rfl,rfl,rfl,rfl⟩
 ·subst h1 h2 h3
  have ht:F B.length=eW S R n:=by simp only [F,take_length];rfl
  have e1:sl B.length=jl n ((bD S).map be) ((eW S R n).map be) ((bD S).map be).length:=by simp only [sl,ht,length_map];rfl
  have e2:TT B.length=lq lk lk2 es es2 ck ck2 ((eW S R n).map be).length:=by simp only [TT,ht]
  rw [e1,e2]
  exact hK
theorem Hg {lk lk2:Value→Option TV}{es es2:List (Value × TV × Nat)}{ck ck2:Nat}{S:List aN}{st:List Nat}{R:cP}(h:SitesOk lk es ck S st)(h2:RepsOk lk2 es2 R)(n:Int):ek prog ae (Mi lk lk2 es es2 ck ck2 n ((bD S).map be) ((eW S R n).map be) (ax prog jQ 0)):=cq λp hp=>by
 obtain rfl:=mem_singleton.1 hp
 exact dA λK hK=>yi h h2 n K hK
end
section
open Go.RowKit
abbrev zS:=86
abbrev zT:=16
def rS (os:List VO)(ys0:List TV)(x:TV):ba:=λro ys T K=>(ro=0∧ys=ys0∧T.objs.take 3=os)∧K x T
def LK (T1 T2:VT)(n:Nat):ba:=λro ys T K=>(ro=0∧ys= [.row 3 3 0 n,.fn (.func 83) [] []]∧T=T1)∧K (.val (.tuple #[])) T2
def IR:ba:=λro ys T K=>(ro=0∧ys= [.vec 3 [] (.tail 0 0),.fn (.func 83) [] []])∧K (.val (.tuple #[])) T
def tz (lk lk2:Value→Option TV)(es es2:List (Value × TV × Nat))(ck ck2 n:Nat)(cs:List TV):VT:=⟨[.cells [.map 1,.map 2],.map kI lk es ck,.map kI lk2 es2 ck2,.row cs],[(n+1,3,false)]⟩
def KP (lk lk2:Value→Option TV)(es es2:List (Value × TV × Nat))(ck ck2:Nat)(n:Int)(A:List (List TV))(c0:Code):Nat→Option (bH × Code):=dk [(0,ig 31 mF [(5,3)] (jl n A [] 0) (lq lk lk2 es es2 ck ck2 0) λK=>K .normal (ay 31 mF (jl n A [] A.length)) (lq lk lk2 es es2 ck ck2 0) [],c0)]
def FY (lk lk2:Value→Option TV)(es es2:List (Value × TV × Nat))(ck ck2:Nat)(n:Int)(A L:List (List TV))(c0:Code):Nat→Option (bH × Code):=dk [(0,uJ 31 mF [(5,3)] (jl n A [] 0) (lq lk lk2 es es2 ck ck2 0) (lq lk lk2 es es2 ck ck2 L.length) 5 0 3 L,c0)]
theorem IS (lk lk2:Value→Option TV)(es es2:List (Value × TV × Nat))(ck ck2:Nat)(A:List (List TV))(n:Int)(Q:TV→VT→Prop):aH prog ae (az [(pv,rS (sT lk lk2 es es2 ck ck2).objs [.ptr 0 0] (c9 A)),(zS,IR)]) bx 300 (KP lk lk2 es es2 ck ck2 n A (ax prog jQ 0)) 0 jQ [.ptr 0 0,.val (.int .i64 n)] (sT lk lk2 es es2 ck ck2) Q=
 (((@Eq (Nat) 0 0)∧
 ((@Eq (List TV) [dZ] [dZ])∧
 (@Eq (List VO) [(ce (.map 1) (.map 2)),(.map ⟨false,[(.int .i64)]⟩ (lk) (es) (ck)),(.map ⟨false,[(.int .i64)]⟩ (lk2) (es2) (ck2))] [(ce (.map 1) (.map 2)),(.map ⟨false,[(.int .i64)]⟩ (lk) (es) (ck)),(.map ⟨false,[(.int .i64)]⟩ (lk2) (es2) (ck2))])))∧
 ((ax prog jQ (0:Nat)=ax prog jQ (0:Nat))∧
 (((@Eq (Option Nat) .none .none)∧
 ((@Eq (Nat) 0 0)∧
 ((@Eq (List Nat) [] [])∧
 (((@Eq (Option TV) (.some ep) (.some ep))∧
 True)∧
 ((@Eq (VT) ⟨[(ce (.map 1) (.map 2)),(.map ⟨false,[(.int .i64)]⟩ (lk) (es) (ck)),(.map ⟨false,[(.int .i64)]⟩ (lk2) (es2) (ck2))],[(0,(3,true))]⟩ ⟨[(ce (.map 1) (.map 2)),(.map ⟨false,[(.int .i64)]⟩ (lk) (es) (ck)),(.map ⟨false,[(.int .i64)]⟩ (lk2) (es2) (ck2))],[(0,(3,true))]⟩)∧
 ((@Eq (Bool) true true)∧
 (@Eq (List TV) (Bq n A (↑(length A):Int)) (Bq n A (↑(length A):Int)))))))))∧
 (((@Eq (Nat) 0 0)∧
 (@Eq (List TV) [j4,(.fn (.func 83) [] [])] [j4,(.fn (.func 83) [] [])]))∧
 Q j4 ⟨[(ce (.map 1) (.map 2)),(.map ⟨false,[(.int .i64)]⟩ (lk) (es) (ck)),(.map ⟨false,[(.int .i64)]⟩ (lk2) (es2) (ck2))],[(0,(3,true))]⟩)))):=by kernel_rfl
theorem IT (lk lk2:Value→Option TV)(es es2:List (Value × TV × Nat))(ck ck2:Nat)(A L LS:List (List TV))(n:Int)(Q:TV→VT→Prop):aH prog ae (az [(pv,rS (sT lk lk2 es es2 ck ck2).objs [.ptr 0 0] (c9 A)),(zS,LK (tz lk lk2 es es2 ck ck2 L.length L.flatten) (tz lk lk2 es es2 ck ck2 L.length LS.flatten) L.length)]) bx 300 (FY lk lk2 es es2 ck ck2 n A L (ax prog jQ 0)) 0 jQ [.ptr 0 0,.val (.int .i64 n)] (sT lk lk2 es es2 ck ck2) Q=
 (((@Eq (Nat) 0 0)∧
 ((@Eq (List TV) [dZ] [dZ])∧
 (@Eq (List VO) [(ce (.map 1) (.map 2)),(.map ⟨false,[(.int .i64)]⟩ (lk) (es) (ck)),(.map ⟨false,[(.int .i64)]⟩ (lk2) (es2) (ck2))] [(ce (.map 1) (.map 2)),(.map ⟨false,[(.int .i64)]⟩ (lk) (es) (ck)),(.map ⟨false,[(.int .i64)]⟩ (lk2) (es2) (ck2))])))∧
 ((ax prog jQ (0:Nat)=ax prog jQ (0:Nat))∧
 (((@Eq (Option Nat) .none .none)∧
 ((@Eq (Nat) 0 0)∧
 ((@Eq (List Nat) [] [])∧
 (((@Eq (Option TV) (.some ep) (.some ep))∧
 True)∧
 ((@Eq (VT) ⟨[(ce (.map 1) (.map 2)),(.map ⟨false,[(.int .i64)]⟩ (lk) (es) (ck)),(.map ⟨false,[(.int .i64)]⟩ (lk2) (es2) (ck2))],[(0,(3,true))]⟩ ⟨[(ce (.map 1) (.map 2)),(.map ⟨false,[(.int .i64)]⟩ (lk) (es) (ck)),(.map ⟨false,[(.int .i64)]⟩ (lk2) (es2) (ck2))],[(0,(3,true))]⟩)∧
 ((@Eq (Bool) true true)∧
 ((@Eq (List TV) (Bq n A (↑(length A):Int)) (Bq n A (↑(length A):Int)))∧
 (@Eq (Bool) true true))))))))∧
 (((@Eq (Nat) 0 0)∧
 ((@Eq (List TV) [(.row 3 3 0 (length L)),(.fn (.func 83) [] [])] [(.row 3 3 0 (length L)),(.fn (.func 83) [] [])])∧
 (@Eq (VT) ⟨[(ce (.map 1) (.map 2)),(.map ⟨false,[(.int .i64)]⟩ (lk) (es) (ck)),(.map ⟨false,[(.int .i64)]⟩ (lk2) (es2) (ck2)),(.row (flatten L))],[((length L+(1:Nat)),(3,false))]⟩ ⟨[(ce (.map 1) (.map 2)),(.map ⟨false,[(.int .i64)]⟩ (lk) (es) (ck)),(.map ⟨false,[(.int .i64)]⟩ (lk2) (es2) (ck2)),(.row (flatten L))],[((length L+(1:Nat)),(3,false))]⟩)))∧
 Q (.row 3 3 0 (length L)) ⟨[(ce (.map 1) (.map 2)),(.map ⟨false,[(.int .i64)]⟩ (lk) (es) (ck)),(.map ⟨false,[(.int .i64)]⟩ (lk2) (es2) (ck2)),(.row (flatten LS))],[((length L+(1:Nat)),(3,false))]⟩)))):=by kernel_rfl
theorem IU (lk lk2:Value→Option TV)(es es2:List (Value × TV × Nat))(ck ck2:Nat)(n:Int)(Q:TV→VT→Prop):aH prog ae (az [(jQ,rS (sT lk lk2 es es2 ck ck2).objs [.ptr 0 0,.val (.int .i64 n)] (.vec 3 [] .none))]) bx 300 bo 0 zT [.ptr 0 0,.val (.int .i64 n)] (sT lk lk2 es es2 ck ck2) Q=
 (((@Eq (Nat) 0 0)∧
 ((@Eq (List TV) (uz n) (uz n))∧
 (@Eq (List VO) [(ce (.map 1) (.map 2)),(.map ⟨false,[(.int .i64)]⟩ (lk) (es) (ck)),(.map ⟨false,[(.int .i64)]⟩ (lk2) (es2) (ck2))] [(ce (.map 1) (.map 2)),(.map ⟨false,[(.int .i64)]⟩ (lk) (es) (ck)),(.map ⟨false,[(.int .i64)]⟩ (lk2) (es2) (ck2))])))∧
 Q Ih ⟨[(ce (.map 1) (.map 2)),(.map ⟨false,[(.int .i64)]⟩ (lk) (es) (ck)),(.map ⟨false,[(.int .i64)]⟩ (lk2) (es2) (ck2)),Ig],[]⟩):=by kernel_rfl
theorem IV (lk lk2:Value→Option TV)(es es2:List (Value × TV × Nat))(ck ck2:Nat)(i a c:Int)(LS:List (List TV))(n:Int)(Q:TV→VT→Prop):aH prog ae (az [(jQ,rS (sT lk lk2 es es2 ck ck2).objs [.ptr 0 0,.val (.int .i64 n)] (c9 (dd i a c::LS)))]) bx 300 bo 0 zT [.ptr 0 0,.val (.int .i64 n)] (sT lk lk2 es es2 ck ck2) Q=
 (((@Eq (Nat) 0 0)∧
 ((@Eq (List TV) (uz n) (uz n))∧
 (@Eq (List VO) [(ce (.map 1) (.map 2)),(.map ⟨false,[(.int .i64)]⟩ (lk) (es) (ck)),(.map ⟨false,[(.int .i64)]⟩ (lk2) (es2) (ck2))] [(ce (.map 1) (.map 2)),(.map ⟨false,[(.int .i64)]⟩ (lk) (es) (ck)),(.map ⟨false,[(.int .i64)]⟩ (lk2) (es2) (ck2))])))∧
 Q (.tup [(xP i a c),ip]) (pu (.map 1) (.map 2) (.map ⟨false,[(.int .i64)]⟩ (lk) (es) (ck)) (.map ⟨false,[(.int .i64)]⟩ (lk2) (es2) (ck2)) i a c)):=by kernel_rfl
end
end Go.Proofs.YtgboehkdijjnkaaGreatDoor
namespace Go.Proofs
open Go.RowKit
open _root_.Array (length_toList toList)
open Go.BinOp (eql)
open _root_.Bool (not_eq_true')
open Go.Calls (mono)
open Go.Fence (wide)
open _root_.Function (comp_def)
open _root_.Int (natCast_nonneg toNat_natCast)
open Go.IntKind (i64 u32 u64 wrap)
open _root_.List (append_nil cons_append drop eq_nil_of_length_eq_zero ext_getElem? flatMap_cons flatten flatten_cons getElem?_cons_succ getElem?_cons_zero getElem?_eq_getElem getElem?_eq_none getElem?_map getElem?_set getElem?_take length length_append length_cons length_map length_mergeSort length_nil length_set length_take map_append map_cons map_map map_nil mem_cons mem_cons_of_mem mem_cons_self mem_map mem_map_of_mem mem_of_getElem? mem_singleton nodup_nil not_mem_nil setIfInBounds_toArray set_cons_succ set_cons_zero take_length take_succ_cons take_zero toArray zipWith)
open _root_.Nat (add_mul beq beq_refl le_refl le_trans mul_le_mul not_lt_zero zero_add zero_le)
open _root_.Option (getD_some map_some)
open Go.Sort (grow)
open Go.Proofs.Tryz (func100 func117 func118 func142 func143 func83 func92 isAgg0 isAgg29 isAgg3 isAgg4 isAgg5 isAgg53 isAgg72 isAgg9 prog sizeOf0 sizeOf3 sizeOf4 sizeOf5 sizeOf9 underlying130 underlying29)
open Go.World (cell?)
open Go.Shelf
def Tryz.sortSi_ren:Go.Shelf.Ren:=⟨λ| 6=>86 | 15=>100 | 14=>99 | 28=>117 | 29=>118 | 20=>109 | 21=>110 | 22=>111 | 23=>112 | 24=>113 | 25=>114 | 26=>115 | 27=>116 | 46=>141 | 47=>142 | 48=>143 | 49=>144 | 50=>145 | 57=>156 | n=>n,λ| 22=>24 | 24=>62 | 25=>163 | 3=>3 | 39=>72 | 0=>0 | 53=>29 | 55=>53 | 4=>4 | 46=>181 | 45=>180 | 50=>116 | 5=>5 | 9=>9 | 66=>203 | 70=>207 | 76=>216 | 77=>217 | n=>n,λ| n=>n⟩
theorem Tryz.sortSi:Go.Proofs.SlLaysF0.n6 prog Tryz.sortSi_ren:={
 mixed:=by kernel_rfl
 f6:=⟨Tryz.f86.name,by decide,Tryz.func86.trans (congrArg some (by kernel_rfl))⟩
 f14:=⟨Tryz.f99.name,by decide,Tryz.func99.trans (congrArg some (by kernel_rfl))⟩
 f15:=func100.trans (congrArg some (by kernel_rfl))
 f20:=⟨Tryz.f109.name,by decide,Tryz.func109.trans (congrArg some (by kernel_rfl))⟩
 f21:=⟨Tryz.f110.name,by decide,Tryz.func110.trans (congrArg some (by kernel_rfl))⟩
 f22:=⟨Tryz.f111.name,by decide,Tryz.func111.trans (congrArg some (by kernel_rfl))⟩
 f23:=⟨Tryz.f112.name,by decide,Tryz.func112.trans (congrArg some (by kernel_rfl))⟩
 f24:=⟨Tryz.f113.name,by decide,Tryz.func113.trans (congrArg some (by kernel_rfl))⟩
 f25:=⟨Tryz.f114.name,by decide,Tryz.func114.trans (congrArg some (by kernel_rfl))⟩
 f26:=⟨Tryz.f115.name,by decide,Tryz.func115.trans (congrArg some (by kernel_rfl))⟩
 f27:=⟨Tryz.f116.name,by decide,Tryz.func116.trans (congrArg some (by kernel_rfl))⟩
 f28:=func117.trans (congrArg some (by kernel_rfl))
 f29:=func118.trans (congrArg some (by kernel_rfl))
 f46:=⟨Tryz.f141.name,by decide,Tryz.func141.trans (congrArg some (by kernel_rfl))⟩
 f47:=func142.trans (congrArg some (by kernel_rfl))
 f48:=func143.trans (congrArg some (by kernel_rfl))
 f49:=⟨Tryz.f144.name,by decide,Tryz.func144.trans (congrArg some (by kernel_rfl))⟩
 f50:=⟨Tryz.f145.name,by decide,Tryz.func145.trans (congrArg some (by kernel_rfl))⟩
 f57:=⟨Tryz.f156.name,by decide,Tryz.func156.trans (congrArg some (by kernel_rfl))⟩
 t0:=Tryz.underlying0
 a0:=isAgg0
 z0:=sizeOf0
 v0:=Tryz.zeroValue0
 t3:=Tryz.underlying3
 a3:=isAgg3
 z3:=sizeOf3
 v3:=Tryz.zeroValue3
 t4:=Tryz.underlying4
 a4:=isAgg4
 z4:=sizeOf4
 v4:=Tryz.zeroValue4
 t5:=Tryz.underlying5
 a5:=isAgg5
 z5:=sizeOf5
 v5:=Tryz.zeroValue5
 t9:=Tryz.underlying9
 a9:=isAgg9
 z9:=sizeOf9
 v9:=Tryz.zeroValue9
 t22:=Tryz.underlying24
 a22:=Tryz.isAgg24
 z22:=Tryz.sizeOf24
 v22:=Tryz.zeroValue24
 t25:=Tryz.underlying163
 a25:=Tryz.isAgg163
 z25:=Tryz.sizeOf163
 v25:=Tryz.zeroValue163
 t39:=Tryz.underlying72
 a39:=isAgg72
 z39:=Tryz.sizeOf72
 v39:=Tryz.zeroValue72
 t45:=Tryz.underlying180
 a45:=Tryz.isAgg180
 z45:=Tryz.sizeOf180
 v45:=Tryz.zeroValue180
 t46:=Tryz.underlying181
 a46:=Tryz.isAgg181
 z46:=Tryz.sizeOf181
 v46:=Tryz.zeroValue181
 t50:=Tryz.underlying116
 a50:=Tryz.isAgg116
 z50:=Tryz.sizeOf116
 v50:=Tryz.zeroValue116
 t53:=underlying29
 a53:=isAgg29
 z53:=Tryz.sizeOf29
 v53:=Tryz.zeroValue29
 t55:=Tryz.underlying53
 a55:=isAgg53
 z55:=Tryz.sizeOf53
 v55:=Tryz.zeroValue53
 t66:=Tryz.underlying203
 a66:=Tryz.isAgg203
 z66:=Tryz.sizeOf203
 v66:=Tryz.zeroValue203
 t70:=Tryz.underlying207
 a70:=Tryz.isAgg207
 z70:=Tryz.sizeOf207
 v70:=Tryz.zeroValue207
 t76:=Tryz.underlying216
 a76:=Tryz.isAgg216
 z76:=Tryz.sizeOf216
 v76:=Tryz.zeroValue216
 t77:=Tryz.underlying217
 a77:=Tryz.isAgg217
 z77:=Tryz.sizeOf217
 v77:=Tryz.zeroValue217}
end Go.Proofs
namespace Go.Proofs.YtgboehkdijjnkaaGreatDoor
open Go.RowKit
open _root_.Array (length_toList toList)
open Go.BinOp (eql)
open _root_.Bool (not_eq_true')
open Go.Calls (mono)
open Go.Fence (wide)
open _root_.Function (comp_def)
open _root_.Int (natCast_nonneg toNat_natCast)
open Go.IntKind (i64 u32 u64 wrap)
open _root_.List (append_nil cons_append drop eq_nil_of_length_eq_zero ext_getElem? flatMap_cons flatten flatten_cons getElem?_cons_succ getElem?_cons_zero getElem?_eq_getElem getElem?_eq_none getElem?_map getElem?_set getElem?_take length length_append length_cons length_map length_mergeSort length_nil length_set length_take map_append map_cons map_map map_nil mem_cons mem_cons_of_mem mem_cons_self mem_map mem_map_of_mem mem_of_getElem? mem_singleton nodup_nil not_mem_nil setIfInBounds_toArray set_cons_succ set_cons_zero take_length take_succ_cons take_zero toArray zipWith)
open _root_.Nat (add_mul beq beq_refl le_refl le_trans mul_le_mul not_lt_zero zero_add zero_le)
open _root_.Option (getD_some map_some)
open Go.Sort (grow)
open Go.Proofs.Tryz (func100 func117 func118 func142 func143 func83 func92 isAgg0 isAgg29 isAgg3 isAgg4 isAgg5 isAgg53 isAgg72 isAgg9 prog sizeOf0 sizeOf3 sizeOf4 sizeOf5 sizeOf9 underlying130 underlying29)
open Go.World (cell?)
section
open Go.RowKit Go.Sort
section
variable {α:Type}[Inhabited α]
theorem Hh (w:World)(os:Array Obj):Gr w (grow w os):=⟨rfl,rfl,rfl,by simp [grow],λk hk=>by simp [grow,Array.getElem?_append,hk]⟩
theorem yj (enc:α→List Value)(k:Nat)(hk:∀x,(enc x).length=k)(h1:∀x,∀v∈enc x,v.oneCell'=true){l l':List α}(hlen:l'.length=l.length){g:Gh}{T:VT}{w w':World}{id b n:Nat}{os:Array Obj}(r:RW g T w)
  (hid:T.objs[id]?=some (.row ((l.flatMap enc).map .val))) (hb:g.obj id=some b) (hw:w'=sortWorldK enc k w b 0 n l'.toArray os):
  Evo g w g w'∧RW g {T with objs:=T.objs.set id (.row ((l'.flatMap enc).map .val))} w':=by
 obtain ⟨b',q1,⟨us,ty,q2,q3,q4,q5⟩,_⟩:=r.obj id _ hid rfl
 rw [hb] at q1;injection q1 with q1;subst q1
 have hfl:(l.flatMap enc).length=l.length*k:=gB enc k hk l
 have hfl':(l'.flatMap enc).length=l.length*k:=by rw [gB enc k hk,hlen]
 have hF:(flatK enc k l'.toArray).size=l.length*k:=by simp [hlen]
 have hle:l.length*k≤us.length:=by simpa [hfl] using q3
 have hXs:(putCells _root_.id 0 (flatK enc k l'.toArray) us.toArray).size=us.length:=by simp [putCells]
 have hX:∀j,j<us.length→(putCells _root_.id 0 (flatK enc k l'.toArray) us.toArray)[j]?=if j<l.length*k then (l'.flatMap enc)[j]? else us[j]?:=λj hj=>by
  simp only [putCells,Array.getElem?_mapIdx,List.getElem?_toArray,zero_le,true_and,zero_add,Nat.sub_zero,hF]
  rw [getElem?_eq_getElem hj]
  by_cases h:j<l.length*k
  ·simp only [if_pos h,map_some,_root_.id]
   have:=tr enc k hk l'.toArray j (by simpa [hlen] using h)
   simpa using this.symm
  ·simp only [if_neg h,map_some]
 have hw1:(putRowK enc k (Sort.ahead w n) b 0 l'.toArray).heap=w.heap.modify b (onCells (putCells _root_.id 0 (flatK enc k l'.toArray))):=rfl
 have hoth:∀c,c≠b→(putRowK enc k (Sort.ahead w n) b 0 l'.toArray).heap[c]?=w.heap[c]?:=λc hc=>by rw [hw1,Array.getElem?_modify,if_neg (Ne.symm hc)]
 have hbk:(putRowK enc k (Sort.ahead w n) b 0 l'.toArray).heap[b]?=some (.cells (putCells _root_.id 0 (flatK enc k l'.toArray) us.toArray) ty (0,0)):=by
  rw [hw1,Array.getElem?_modify,if_pos rfl,q2];rfl
 have hg:Gr (putRowK enc k (Sort.ahead w n) b 0 l'.toArray) w':=by subst hw;exact Hh _ _
 have hos:(putRowK enc k (Sort.ahead w n) b 0 l'.toArray).os=w.os∧(putRowK enc k (Sort.ahead w n) b 0 l'.toArray).tape=w.tape∧(putRowK enc k (Sort.ahead w n) b 0 l'.toArray).output=w.output:=⟨rfl,rfl,rfl⟩
 have hsz:(putRowK enc k (Sort.ahead w n) b 0 l'.toArray).heap.size=w.heap.size:=by rw [hw1];simp
 generalize putRowK enc k (Sort.ahead w n) b 0 l'.toArray=w1 at*
 generalize putCells _root_.id 0 (flatK enc k l'.toArray) us.toArray=X at*
 have e0:VRs g w ((l'.flatMap enc).map TV.val) (X.toList.take ((l'.flatMap enc).map TV.val).length):=by
  have e:X.toList.take ((l'.flatMap enc).map TV.val).length=l'.flatMap enc:=by
   apply ext_getElem?
   intro j
   rw [length_map,hfl',getElem?_take]
   by_cases h:j<l.length*k
   ·rw [if_pos h,Array.getElem?_toList,hX j (by omega),if_pos h]
   ·rw [if_neg h,getElem?_eq_none (by omega)]
  rw [e]
  exact VRs.vals _ _ _
 have o1:∀v∈X.toList.take ((l'.flatMap enc).map TV.val).length,v.oneCell'=true:=by
  intro v hv
  have e:X.toList.take ((l'.flatMap enc).map TV.val).length=l'.flatMap enc:=by
   apply ext_getElem?
   intro j
   rw [length_map,hfl',getElem?_take]
   by_cases h:j<l.length*k
   ·rw [if_pos h,Array.getElem?_toList,hX j (by omega),if_pos h]
   ·rw [if_neg h,getElem?_eq_none (by omega)]
  rw [e] at hv
  obtain ⟨x,_,hx⟩:=List.mem_flatMap.1 hv
  exact h1 x _ hx
 obtain ⟨_,e9⟩:=r.setObj hid rfl hb (o':=.gone) (w':=w1) hos hsz hoth (by rw [aY hbk,aY q2,hXs];simp) (λh=>by cases h)
 obtain ⟨r1,e1⟩:=r.setObj hid rfl hb (o':=.row ((l'.flatMap enc).map .val)) (w':=w1) hos hsz hoth (by rw [aY hbk,aY q2,hXs];simp)
  (λ_=>⟨X.toList,ty,by simpa using hbk,by simp [hfl',hXs];exact hle,e0.mono e9,o1⟩)
 exact ⟨e1.trans (Evo.of_gr r1 hg),r1.gr hg⟩
end
end
section
open Go.RowKit Go.Sort Go.Shelf
def sA (A:Int→Int)(p:Int × Int):aN:=(p.1,A p.1,p.2)
def iw (A:Int→Int)(p:Int × Int):List Value:= [.int .i64 p.1,.int .u32 (A p.1),.int .i64 p.2]
theorem jm (A:Int→Int)(p:Int × Int):(iw A p).length=3:=rfl
theorem yk (A:Int→Int)(p:Int × Int):∀v∈iw A p,v.oneCell'=true:=by
 intro v hv
 simp [iw] at hv
 rcases hv with rfl | rfl | rfl<;>rfl
theorem yl (A:Int→Int)(l:List (Int × Int)):((l.map (sA A)).map be).flatten=(l.flatMap (iw A)).map .val:=by
 induction l with
 |nil=>rfl
 |cons a l ih=>rw [map_cons,map_cons,flatten_cons,ih,flatMap_cons,map_append];rfl
def rh (p q:Int × Int):Int:=lp [dw p.2 q.2,dw p.1 q.1]
theorem tA (a b:Int):(dw a b=-1∧a<b)∨(dw a b=1∧b<a)∨(dw a b=0∧a=b):=by unfold dw;split<;>(try split)<;>omega
theorem C8 (p q:Int × Int):ltOf rh p q=true ↔ p.2<q.2∨(p.2=q.2∧p.1<q.1):=by
 simp only [ltOf,rh,lp]
 rcases tA p.2 q.2 with ⟨h1,h2⟩ | ⟨h1,h2⟩ | ⟨h1,h2⟩<;>rcases tA p.1 q.1 with ⟨h3,h4⟩ | ⟨h3,h4⟩ | ⟨h3,h4⟩<;>simp [h1,h3]<;>omega
theorem qy (p q:Int × Int):ltOf rh p q=false ↔ ¬(p.2<q.2∨(p.2=q.2∧p.1<q.1)):=by rw [←C8];simp
theorem IW:SWO (ltOf rh):=by
 refine ⟨λx=> ?_,λx y z h1 h2=> ?_,λx y z h1 h2=> ?_⟩
 ·rw [qy];omega
 ·rw [C8] at*;omega
 ·rw [qy] at*;omega
theorem Fa (x y:Int × Int)(h1:ltOf rh x y=false)(h2:ltOf rh y x=false):x=y:=by
 rw [qy] at h1 h2
 have:x.1=y.1∧x.2=y.2:=by omega
 exact Prod.ext this.1 this.2
def kr (l:List (Int × Int)):List (Int × Int):=l.mergeSort λx y=> !(ltOf rh) y x
theorem C9 (l:List (Int × Int)):(kr l).length=l.length:=length_mergeSort l
theorem IX (A:Int→Int)(blk off size:Nat)(w:World):CmpLays prog 83 #[] (iw A) 3 rh blk off size w:=
 λ_ _ _ _ x y=>(Hd (sA A x) (sA A y) _).mono λ_ _ ⟨he,hg⟩=>⟨he,hg.grow⟩
theorem Da {G:aD}(A:Int→Int)(l:List (Int × Int))(hl:l.length<4611686018427387904):VCx prog G 0 zS [.row 3 0 0 l.length,.fn (.func 83) [] []] ⟨[.row ((l.map (sA A)).map be).flatten],[]⟩ λx T'=>x=.val (.tuple #[])∧T'=⟨[.row (((kr l).map (sA A)).map be).flatten],[]⟩:=by
 rw [yl,yl]
 intro g w us r hG hx
 match us,hx.1 with
 |[u,f],_=>
  obtain ⟨b,c,f1,f2,f3,f4,f5,rfl⟩:=(hx.2 0 _ u rfl rfl).row_inv
  obtain ⟨us,vs,rfl,h3,h4⟩:=(hx.2 1 _ f rfl rfl).fn_inv
  have e3:us= []:=eq_nil_of_length_eq_zero h3.1
  have e4:vs= []:=eq_nil_of_length_eq_zero h4.1
  subst e3 e4
  obtain ⟨b',q1,⟨us,ty,q2,q3,q4,q5⟩,_⟩:=r.obj 0 _ rfl rfl
  rw [f1] at q1;injection q1 with q1;subst q1
  have hfix:∀(T':VT) (w':World),T'.objs.length=1→Fix 0 g ⟨[.row ((l.flatMap (iw A)).map .val)],[]⟩ w T' w':=λT' w' h=>⟨by simp [h],λi hi=>absurd hi (not_lt_zero i),λi o b hi=>absurd hi (not_lt_zero i)⟩
  rcases Nat.eq_zero_or_pos l.length with h0 | hpos
  ·have:l= []:=eq_nil_of_length_eq_zero h0
   subst this
   refine (AnyF.slices_SortFunc_none Tryz.sortSi (some ⟨b,0*3,none⟩) c _ w).mono λe w' ⟨he,hw⟩=> ?_
   subst hw
   exact ⟨.tuple #[],_,g,_,he,⟨rfl,by simp [kr]⟩,Evo.refl _ _,r,.val _,hfix _ _ rfl⟩
  ·have hcs:=aY q2
   rw [List.size_toArray] at hcs
   have hul:us.length=c*3:=by rw [←hcs,←f5];omega
   have htk:us.take (l.length*3)=l.flatMap (iw A):=by
    have hlen:((l.flatMap (iw A)).map TV.val).length=l.length*3:=by rw [length_map,gB (iw A) 3 (jm A)]
    rw [hlen] at q4
    exact l8 (by simp [bM,comp_def]) q4
   have hown:w.ownsRow 0 ty 3 (.slice (some ⟨b,0,none⟩) l.toArray.size c) l.toArray.size (l.toArray.toList.flatMap (iw A)):=by
    refine ⟨by simp [gB (iw A) 3 (jm A)],.inr ⟨b,c,us.toArray,by simp,zero_le _,q2,by simpa using f3,f4,by simpa using hul,?_⟩⟩
    simpa [gB (iw A) 3 (jm A)] using htk
   obtain ⟨g',cap',hv,hb',hg',hH⟩:=vN (iw A) 3 (jm A) l.toArray hown (by simpa using hpos)
   injection hv with p1 _ p3
   injection p1 with p1;injection p1 with p1
   subst p1 p3
   have hs:l.toArray.size<4611686018427387904:=by simpa using hl
   have eg:∀args w,(callFunc 83 args).run prog w=.ok (.enter 83 args) w:=enters_of func83 (by kernel_rfl) rfl
   have hcon:=AnyQ.slices_SortFunc_total Tryz.sortSi 3 Tryz.isAgg62 Tryz.sizeOf62 (iw A) (jm A) (yk A) rh IW 83 #[] b 0 c l.toArray w eg (IX A b 0 _ w) hH hg' hs Fa
   refine mono hcon λ_ _ ⟨he,n,os,hw⟩=> ?_
   obtain ⟨e1,r1⟩:=yj (iw A) 3 (jm A) (yk A) (l:=l) (l':=kr l) (C9 l) r rfl f1 hw
   exact ⟨.tuple #[],_,g,_,he,⟨rfl,rfl⟩,e1,r1,.val _,hfix _ _ rfl⟩
end
set_option maxRecDepth 100000
section
open Go.RowKit Go.Maps Go.Sort Go.Shelf
theorem zU {lk lk2:Value→Option TV}{es es2:List (Value × TV × Nat)}{ck ck2:Nat}{S:List aN}{st:List Nat}{R:cP}(h:SitesOk lk es ck S st)(h2:RepsOk lk2 es2 R){f:FuncId}{ys0:List TV}{x0:TV}
  (hy:av (aj [0,1,2]) (aj []) ys0=ys0) (hx:∀f g,x0.ren f g=x0) (hv:VCx prog ae 0 f ys0 (sT lk lk2 es es2 ck ck2) λx T'=>x=x0∧T'=sT lk lk2 es es2 ck ck2):
  ∀ro ys T K,rS (sT lk lk2 es es2 ck ck2).objs ys0 x0 ro ys T K→VCx prog ae ro f ys T K:=by
 rintro ro ys ⟨os,tl⟩ K ⟨⟨rfl,rfl,hos⟩,hk⟩
 have q1:=h.ren (aj [0,1,2]) (aj [])
 have q2:=h2.ren ck2 (aj [0,1,2]) (aj [])
 match os,hos with
 |o0::o1::o2::l,hos=>
  simp only [take_succ_cons,take_zero,sT,List.cons.injEq,and_true] at hos
  obtain ⟨rfl,rfl,rfl⟩:=hos
  refine (VCx.lift (xs:=ys) [0,1,2] [] bg (by decide) nodup_nil (λk hk=> ?_) (by simp) (λ_ _=>zero_le _) hy ?_ (Q:=λx T'=>x=x0∧T'=sT lk lk2 es es2 ck ck2) (λx T' hq=> ?_)).mono ?_
  ·simp only [mem_cons,not_mem_nil,or_false] at hk
   rcases hk with rfl | rfl | rfl
   ·exact ⟨_,rfl,rfl⟩
   ·exact ⟨_,rfl,rfl⟩
   ·exact ⟨_,rfl,rfl⟩
  ·have hg:VT.give ⟨.cells [.map 1,.map 2]:: .map kI lk es ck:: .map kI lk2 es2 ck2::l,tl⟩ [0,1,2] []=sT lk lk2 es es2 ck ck2:=by
    simp only [VT.give,map_cons,map_nil,getElem?_cons_zero,getElem?_cons_succ,getD_some,q1,q2,sT]
    rfl
   rw [hg]
   exact hv
  ·rw [hq.2];exact ⟨le_refl 3,zero_le _⟩
  ·rintro x T' ⟨y,T2,⟨rfl,rfl⟩,rfl,rfl⟩
   have r1:=h.ren (an (l.length+1+1+1) [0,1,2]) (an tl.length [])
   have r2:=h2.ren ck2 (an (l.length+1+1+1) [0,1,2]) (an tl.length [])
   have hb:VT.back ⟨.cells [.map 1,.map 2]:: .map kI lk es ck:: .map kI lk2 es2 ck2::l,tl⟩ [0,1,2] [] (sT lk lk2 es es2 ck ck2)=⟨.cells [.map 1,.map 2]:: .map kI lk es ck:: .map kI lk2 es2 ck2::l,tl⟩:=by
    simp only [VT.back,sT,length_cons,map_cons,map_nil,r1,r2,aT]
    simp [aT,VO.ren,TV.ren,av,an]
   rw [hb,hx]
   exact hk
theorem IY {G:aD}:∀ro ys T K,IR ro ys T K→VCx prog G ro zS ys T K:=by
 rintro ro ys T K ⟨⟨rfl,rfl⟩,hk⟩ g w us r hG hx
 have hl:=hx.1
 match us,hl with
 |[u,f],_=>
  obtain ⟨us,vs,rfl,h3,h4⟩:=(hx.2 1 _ f rfl rfl).fn_inv
  have e3:us= []:=eq_nil_of_length_eq_zero h3.1
  have e4:vs= []:=eq_nil_of_length_eq_zero h4.1
  subst e3 e4
  have key:∀p c,Calls prog zS #[.slice p 0 c,.func (.func 83) #[] #[]] w λe w'=>∃v x g' T',e=.returned v∧K x T'∧Evo g w g' w'∧RW g' T' w'∧VR g' w' x v∧Fix 0 g T w T' w':=λp c=>
   (AnyF.slices_SortFunc_none Tryz.sortSi p c _ w).mono λe w' ⟨he,hw⟩=>by
    subst hw
    exact ⟨.tuple #[],_,g,_,he,hk,Evo.refl _ _,r,.val _,Fix.refl _ _ _ _⟩
  rcases (hx.2 0 _ u rfl rfl).vec_inv with ⟨rfl,_⟩ | ⟨b,o,c,us,rfl,_⟩ | ⟨a,rfl,_⟩
  ·exact key none 0
  ·exact key _ c
  ·exact key _ 0
def ym (S:List aN)(i:Int):Int:=(ew S i).2.1
def FZ (s:aN):Int × Int:=(s.1,s.2.2)
theorem rU {S:List aN}{s:aN}(h:s∈bD S):s∈S∧ew S s.1=s:=by
 unfold bD at h
 obtain ⟨z,hz,rfl⟩:=mem_map.1 h
 have hm:z∈S.map (·.1):=(List.mergeSort_perm (S.map (·.1)) leI).mem_iff.1 hz
 obtain ⟨s0,hs0,he⟩:=mem_map.1 hm
 cases hf:S.find? λs=>s.1==z with
 |none=>
  have:=List.find?_eq_none.1 hf s0 hs0
  simp [he] at this
 |some s=>
  have h1:s.1=z:=by simpa using List.find?_some hf
  refine ⟨List.mem_of_find?_eq_some hf,?_⟩
  simp only [ew,getD_some,h1,hf]
theorem yn (S:List aN):∀{l:List aN},(∀s∈l,ew S s.1=s)→(l.map FZ).map (sA (ym S))=l
 |[],_=>rfl
 |s::l,h=>by
  have h1:=h s mem_cons_self
  simp only [map_cons,yn S λs hs=>h s (mem_cons_of_mem _ hs)]
  congr 1
  show (s.1,ym S s.1,s.2.2)=s
  rw [ym,h1]
theorem KQ (A:Int→Int)(a b:Int × Int):(!(ltOf rh) b a)=tw (sA A a) (sA A b):=by
 have h1:=qy b a
 rw [Bool.eq_iff_iff]
 simp only [not_eq_true',h1,tw,sA,Bool.or_eq_true,Bool.and_eq_true,decide_eq_true_eq]
 show ¬(b.2<a.2∨b.2=a.2∧b.1<a.1) ↔ decide (a.2<b.2)=true∨decide (a.2=b.2)=true∧decide (a.1≤b.1)=true
 simp only [decide_eq_true_eq]
 omega
theorem BK {S:List aN}{l:List aN}(h:∀s∈l,ew S s.1=s):(kr (l.map FZ)).map (sA (ym S))=l.mergeSort tw:=by
 unfold kr
 rw [List.map_mergeSort (s:=tw) (λa _ b _=>KQ _ a b),yn S h]
theorem Db {S:List aN}{R:cP}{n:Int}{s:aN}(h:s∈eW S R n):s∈S∧ew S s.1=s∧0<ll R s.1 n:=by
 obtain ⟨h1,h2⟩:=List.mem_filter.1 h
 exact ⟨(rU h1).1,(rU h1).2,by simpa [mE] using h2⟩
theorem Hi (l:List aN):∀e∈l.map be,e.length=3:=λe he=>by obtain ⟨s,_,rfl⟩:=mem_map.1 he;rfl
theorem Fb (l:List aN):∀c∈(l.map be).flatten,FreeT c:=λc hc=>by
 obtain ⟨e,he,hc⟩:=List.mem_flatten.1 hc
 obtain ⟨s,_,rfl⟩:=mem_map.1 he
 simp only [be,dd,mem_cons,not_mem_nil,or_false] at hc
 rcases hc with rfl | rfl | rfl<;>exact .val _
theorem Fc {lk lk2:Value→Option TV}{es es2:List (Value × TV × Nat)}{ck ck2 n:Nat}{S:List aN}{st:List Nat}{R:cP}(h:SitesOk lk es ck S st)(h2:RepsOk lk2 es2 R):∀o∈(lq lk lk2 es es2 ck ck2 n).objs,wD o:=λo ho=>by
 simp only [lq,mem_cons,not_mem_nil,or_false] at ho
 rcases ho with rfl | rfl | rfl
 ·intro c hc
  simp only [mem_cons,not_mem_nil,or_false] at hc
  rcases hc with rfl | rfl<;>exact .map _
 ·intro e he
  rw [h.ents] at he
  have go:∀(S:List aN) (st:List Nat),e∈zipWith (λs b=>(aC s.1,iH s,b)) S st→FreeT e.2.1:=by
   intro S
   induction S with
   |nil=>intro st he;simp at he
   |cons s S ih=>
    intro st he
    cases st with
    |nil=>simp at he
    |cons b st=>
     rcases mem_cons.1 he with rfl | he
     ·refine .agg λc hc=> ?_
      simp only [dd,mem_cons,not_mem_nil,or_false] at hc
      rcases hc with rfl | rfl | rfl<;>exact .val _
     ·exact ih st he
  exact go S st he
 ·intro e he
  obtain ⟨r,hr⟩:=h2.ents e he
  rw [hr]
  refine .agg λc hc=> ?_
  simp only [Ij,mem_cons,not_mem_nil,or_false] at hc
  rcases hc with rfl | rfl<;>exact .val _
theorem KR {lk lk2:Value→Option TV}{es es2:List (Value × TV × Nat)}{ck ck2:Nat}{S:List aN}{st:List Nat}{R:cP}(h:SitesOk lk es ck S st)(h2:RepsOk lk2 es2 R)(l:List aN)(hl:l.length≤8)(hm:∀s∈l,ew S s.1=s):
  ∀ro ys T K,LK (tz lk lk2 es es2 ck ck2 (l.map be).length (l.map be).flatten) (tz lk lk2 es es2 ck ck2 (l.map be).length ((l.mergeSort tw).map be).flatten) (l.map be).length ro ys T K→VCx prog ae ro zS ys T K:=by
 rintro ro ys T K ⟨⟨rfl,rfl,rfl⟩,hk⟩
 have hs:=Da (G:=ae) (ym S) (l.map FZ) (by rw [length_map];omega)
 rw [BK hm,yn S hm,show (l.map FZ).length=(l.map be).length by simp] at hs
 have e1:∀(f g:Nat→Option Nat) (l:List aN),VO.ren f g (.row (l.map be).flatten)=.row (l.map be).flatten:=λf g l=>by
  have:av f g (l.map be).flatten=(l.map be).flatten:=by
   induction l with
   |nil=>rfl
   |cons a l ih=>rw [map_cons,flatten_cons,c7,map_append,←c7,←c7,ih];rfl
  simp only [VO.ren,this]
 refine (VCx.lift (xs:= [.row 3 0 0 (l.map be).length,.fn (.func 83) [] []]) [3] [] bg (by decide) nodup_nil (λk hk=> ?_) (by simp) (λ_ _=>zero_le _) rfl ?_ (Q:=λx T'=>x=.val (.tuple #[])∧T'=⟨[.row ((l.mergeSort tw).map be).flatten],[]⟩) (λx T' hq=> ?_)).mono ?_
 ·simp only [mem_cons,not_mem_nil,or_false] at hk
  subst hk
  exact ⟨_,rfl,rfl⟩
 ·have hg:VT.give (tz lk lk2 es es2 ck ck2 (l.map be).length (l.map be).flatten) [3] []=⟨[.row (l.map be).flatten],[]⟩:=by
   simp only [VT.give,tz,map_cons,map_nil,getElem?_cons_zero,getElem?_cons_succ,getD_some,e1]
  rw [hg]
  exact hs
 ·rw [hq.2];exact ⟨le_refl 1,zero_le _⟩
 ·rintro x T' ⟨y,T2,⟨rfl,rfl⟩,rfl,rfl⟩
  have hb:VT.back (tz lk lk2 es es2 ck ck2 (l.map be).length (l.map be).flatten) [3] [] ⟨[.row ((l.mergeSort tw).map be).flatten],[]⟩=tz lk lk2 es es2 ck ck2 (l.map be).length ((l.mergeSort tw).map be).flatten:=by
   simp only [VT.back,tz,length_cons,map_cons,map_nil,e1,aT]
   simp [aT]
  rw [hb]
  exact hk
theorem IZ {lk lk2:Value→Option TV}{es es2:List (Value × TV × Nat)}{ck ck2:Nat}{S:List aN}{st:List Nat}{R:cP}(h:SitesOk lk es ck S st)(h2:RepsOk lk2 es2 R)(n:Int):
  VCx prog ae 0 jQ [.ptr 0 0,.val (.int .i64 n)] (sT lk lk2 es es2 ck ck2) λx T'=>x=.vec 3 ((dq S R n).map be) .none∧T'=sT lk lk2 es es2 ck ck2:=by
 have hal:∀ro ys T K,rS (sT lk lk2 es es2 ck ck2).objs [.ptr 0 0] (.vec 3 ((bD S).map be) .none) ro ys T K→VCx prog ae ro pv ys T K:=
  zU h h2 rfl (λf g=>by simp only [TV.ren,fD,Tok.ren]) (Im h λf g=>h2.ren ck2 f g)
 have hlb:(bD S).length≤8:=by unfold bD;rw [length_map,mc];exact h.few
 have hla:(eW S R n).length≤8:=le_trans (List.length_filter_le _ _) hlb
 have e1:=h.ren (ai 3) (ai 0)
 have e2:=h2.ren ck2 (ai 3) (ai 0)
 unfold kI at e1 e2
 have hloop:=Hg (ck2:=ck2) h h2 n
 by_cases hL:eW S R n= []
 ·have hS:dq S R n= []:=by rw [dq,hL];simp
  rw [hL] at hloop
  refine VCx.keepQ 3 0 (le_refl _) (le_refl _) (ap ah ag (aE λp hp=> ?_) hloop (IS lk lk2 es es2 ck ck2 ((bD S).map be) n _) ?_)
  ·simp only [mem_cons,not_mem_nil,or_false] at hp
   rcases hp with rfl | rfl
   ·exact hal
   ·exact IY
  ·refine ⟨⟨rfl,rfl,rfl⟩,rfl,⟨rfl,rfl,rfl,⟨rfl,trivial⟩,rfl,rfl,rfl⟩,⟨rfl,rfl⟩,?_,?_⟩
   ·rw [hS];rfl
   ·simp only [VT.keep,take_succ_cons,take_zero,map_cons,map_nil,e1,e2,sT,kI]
    rfl
 ·have hpos:0<((eW S R n).map be).length:=by rw [length_map];exact List.length_pos_iff.2 hL
  have hlen:((dq S R n).map be).length=((eW S R n).map be).length:=by simp [dq,length_mergeSort]
  have hlp:ek prog ae (FY lk lk2 es es2 ck ck2 n ((bD S).map be) ((eW S R n).map be) (ax prog jQ 0)):=cq λp hp=>by
   obtain rfl:=mem_singleton.1 hp
   refine tu (vs1:=jl n ((bD S).map be) ((eW S R n).map be) ((bD S).map be).length) rfl rfl hpos (Fb _) (Fc h h2) ?_
   intro K hK
   exact yi h h2 n K hK
  refine VCx.keepQ 3 0 (le_refl _) (le_refl _) ((VCx.freeze (size:=3) (es:=(dq S R n).map be) (Q:=λT'=>T'.keep 3 0=sT lk lk2 es es2 ck ck2) (ap ah ag (aE λp hp=> ?_) hlp (IT lk lk2 es es2 ck ck2 ((bD S).map be) ((eW S R n).map be) ((dq S R n).map be) n _) ?_)).mono ?_)
  ·simp only [mem_cons,not_mem_nil,or_false] at hp
   rcases hp with rfl | rfl
   ·exact hal
   ·exact KR h h2 (eW S R n) hla λs hs=>(Db hs).2.1
  ·refine ⟨⟨rfl,rfl,rfl⟩,rfl,⟨rfl,rfl,rfl,⟨rfl,trivial⟩,rfl,rfl,rfl,rfl⟩,⟨rfl,rfl,rfl⟩,3,0,_,rfl,?_,?_⟩
   ·rw [←hlen];exact kp rfl (Hi _)
   ·simp only [VT.kill,VT.keep,set_cons_succ,set_cons_zero,take_succ_cons,take_zero,map_cons,map_nil,e1,e2,sT,kI]
    rfl
  ·rintro x T' ⟨rfl,hq⟩
   exact ⟨by simp only [TV.ren,fD,Tok.ren],hq⟩
end
section
open Go.RowKit Go.Sort Go.Shelf
theorem yp:∃inf:TypeInfo,prog.info? 150=some inf∧inf.size=3∧inf.bytes+1≤1000∧inf.zero=some (.agg #[.int .i64 0,.int .i64 0,.int .u64 0]):=
 ⟨(prog.info? 150).getD default,by kernel_rfl,by kernel_rfl,Nat.le_of_ble_eq_true (by kernel_rfl),by kernel_rfl⟩
theorem yq:∃inf:TypeInfo,prog.info? 56=some inf∧inf.size=3∧inf.bytes+1≤1000∧inf.zero=some (.agg #[.int .i64 0,.int .u32 0,.int .i64 0]):=
 ⟨(prog.info? 56).getD default,by kernel_rfl,by kernel_rfl,Nat.le_of_ble_eq_true (by kernel_rfl),by kernel_rfl⟩
theorem rV {x i:Operand}{l:List (Nat × TV)}{L:List (List TV)}{tok:Tok}{k:IntKind}{z:Int}{e:List TV}(hx:aq ae l x=.vec 3 L tok)(hz:aq ae l i=.val (.int k z))(h0:0≤z)(he:L[z.toNat]?=some e):
  aJ prog ae (.indexAddr 22 x i) l (.elt e):=by
 obtain ⟨inf,i1,i2,_,_⟩:=yq
 exact dN (inf:=inf) Tryz.underlying22 i1 (by rw [i2];exact hx) hz h0 he
theorem Fd {x i:Operand}{l:List (Nat × TV)}{L:List (List TV)}{tok:Tok}{k:IntKind}{z:Int}{e:List TV}(hx:aq ae l x=.vec 3 L tok)(hz:aq ae l i=.val (.int k z))(h0:0≤z)(he:L[z.toNat]?=some e):
  aJ prog ae (.indexAddr 147 x i) l (.elt e):=by
 obtain ⟨inf,i1,i2,_,_⟩:=yp
 exact dN (inf:=inf) Tryz.underlying147 i1 (by rw [i2];exact hx) hz h0 he
theorem Fe {ro:Nat}{T T1:VT}{s x:Operand}{l:List (Nat × TV)}{es es2:List (List TV)}{k n:Nat}{bn:Bool}(hs:cw T 3 (aq ae l s)=some (es,k,n,bn,T1))(hx:gL 3 (aq ae l x)=some es2)(hb:es.length+es2.length≤3000):
    aM prog ae ro T (.call ⟨.builtin .append,#[s,x],#[147,147]⟩) l (.vec 3 (es++es2) (.tail k (n+es2.length))) {T1 with tails:=T1.tails.set k (n+es2.length,3,bn)}:=by
  obtain ⟨inf,i1,i2,i3,i4⟩:=yp
  have h:=iG (inf:=inf) (P:=prog) (G:=ae) (ro:=ro) (T:=T) (T1:=T1) (t:=147) (tx:=147) (s:=s) (x:=x) (l:=l) (es:=es) (es2:=es2) (k:=k) (n:=n) (bn:=bn) Tryz.underlying147 i1 i4 (by rw [i2];rfl) (by rw [i2];decide) (by kernel_rfl) (by rw [i2];exact hs) (by rw [i2];exact hx)
    (by have h1:=i3
        have h2:=mul_le_mul hb h1
        omega)
  rw [i2] at h
  exact h
theorem BL {G:aD}(l:List Bk)(hl:l.length<4611686018427387904):VCx prog G 0 zR [.row 3 0 0 l.length,.fn (.func pA) [] []] ⟨[.row (l.map bw).flatten],[]⟩ λx T'=>x=.val (.tuple #[])∧T'=⟨[.row ((dn l).map bw).flatten],[]⟩:=by
 rw [ko,ko]
 intro g w us r hG hx
 match us,hx.1 with
 |[u,f],_=>
  obtain ⟨b,c,f1,f2,f3,f4,f5,rfl⟩:=(hx.2 0 _ u rfl rfl).row_inv
  obtain ⟨us,vs,rfl,h3,h4⟩:=(hx.2 1 _ f rfl rfl).fn_inv
  have e3:us= []:=eq_nil_of_length_eq_zero h3.1
  have e4:vs= []:=eq_nil_of_length_eq_zero h4.1
  subst e3 e4
  obtain ⟨b',q1,⟨us,ty,q2,q3,q4,q5⟩,_⟩:=r.obj 0 _ rfl rfl
  rw [f1] at q1;injection q1 with q1;subst q1
  have hfix:∀(T':VT) (w':World),T'.objs.length=1→Fix 0 g ⟨[.row ((l.flatMap fC).map .val)],[]⟩ w T' w':=λT' w' h=>⟨by simp [h],λi hi=>absurd hi (not_lt_zero i),λi o b hi=>absurd hi (not_lt_zero i)⟩
  rcases Nat.eq_zero_or_pos l.length with h0 | hpos
  ·have:l= []:=eq_nil_of_length_eq_zero h0
   subst this
   refine (AnyF.slices_SortFunc_none Tryz.sortSeat (some ⟨b,0*3,none⟩) c _ w).mono λe w' ⟨he,hw⟩=> ?_
   subst hw
   exact ⟨.tuple #[],_,g,_,he,⟨rfl,by simp [dn]⟩,Evo.refl _ _,r,.val _,hfix _ _ rfl⟩
  ·have hcs:=aY q2
   rw [List.size_toArray] at hcs
   have hul:us.length=c*3:=by rw [←hcs,←f5];omega
   have htk:us.take (l.length*3)=l.flatMap fC:=by
    have hlen:((l.flatMap fC).map TV.val).length=l.length*3:=by rw [length_map,gB fC 3 iJ]
    rw [hlen] at q4
    exact l8 (by simp [bM,comp_def]) q4
   have hown:w.ownsRow 0 ty 3 (.slice (some ⟨b,0,none⟩) l.toArray.size c) l.toArray.size (l.toArray.toList.flatMap fC):=by
    refine ⟨by simp [gB fC 3 iJ],.inr ⟨b,c,us.toArray,by simp,zero_le _,q2,by simpa using f3,f4,by simpa using hul,?_⟩⟩
    simpa [gB fC 3 iJ] using htk
   obtain ⟨g',cap',hv,hb',hg',hH⟩:=vN fC 3 iJ l.toArray hown (by simpa using hpos)
   injection hv with p1 _ p3
   injection p1 with p1;injection p1 with p1
   subst p1 p3
   have hs:l.toArray.size<4611686018427387904:=by simpa using hl
   have eg:∀args w,(callFunc pA args).run prog w=.ok (.enter pA args) w:=enters_of func92 (by kernel_rfl) rfl
   have hcon:=AnyQ.slices_SortFunc_total Tryz.sortSeat 3 Tryz.isAgg150 Tryz.sizeOf150 fC iJ vP fB E6 pA #[] b 0 c l.toArray w eg (E7 b 0 _ w) hH hg' hs BE
   refine mono hcon λ_ _ ⟨he,n,os,hw⟩=> ?_
   obtain ⟨e1,r1⟩:=yj fC 3 iJ vP (l:=l) (l':=dn l) (vO l) r rfl f1 hw
   exact ⟨.tuple #[],_,g,_,he,⟨rfl,rfl⟩,e1,r1,.val _,hfix _ _ rfl⟩
theorem I0 {G:aD}:∀ro ys T K,IK ro ys T K→VCx prog G ro zR ys T K:=by
 rintro ro ys T K ⟨⟨rfl,rfl⟩,hk⟩ g w us r hG hx
 have hl:=hx.1
 match us,hl with
 |[u,f],_=>
  obtain ⟨us,vs,rfl,h3,h4⟩:=(hx.2 1 _ f rfl rfl).fn_inv
  have e3:us= []:=eq_nil_of_length_eq_zero h3.1
  have e4:vs= []:=eq_nil_of_length_eq_zero h4.1
  subst e3 e4
  have key:∀p c,Calls prog zR #[.slice p 0 c,.func (.func pA) #[] #[]] w λe w'=>∃v x g' T',e=.returned v∧K x T'∧Evo g w g' w'∧RW g' T' w'∧VR g' w' x v∧Fix 0 g T w T' w':=λp c=>
   (AnyF.slices_SortFunc_none Tryz.sortSeat p c _ w).mono λe w' ⟨he,hw⟩=>by
    subst hw
    exact ⟨.tuple #[],_,g,_,he,hk,Evo.refl _ _,r,.val _,Fix.refl _ _ _ _⟩
  rcases (hx.2 0 _ u rfl rfl).vec_inv with ⟨rfl,_⟩ | ⟨b,o,c,us,rfl,_⟩ | ⟨a,rfl,_⟩
  ·exact key none 0
  ·exact key _ c
  ·exact key _ 0
theorem yr (f g:Nat→Option Nat)(l:List Bk):VO.ren f g (.row (l.map bw).flatten)=.row (l.map bw).flatten:=by
 have:av f g (l.map bw).flatten=(l.map bw).flatten:=by
  rw [ko];exact vg _ _ _
 simp only [VO.ren,this]
section
variable (p s d sp dp:Int)
theorem Hj (f g:Nat→Option Nat):av f g (bQ p s d sp dp)=bQ p s d sp dp:=rfl
theorem I1 (l:List Bk)(hl:l.length≤1000):∀ro ys T K,LI (nW (bQ p s d sp dp) (l.map bw).length (l.map bw).flatten) (nW (bQ p s d sp dp) (l.map bw).length ((dn l).map bw).flatten) (l.map bw).length ro ys T K→VCx prog ae ro zR ys T K:=by
 rintro ro ys T K ⟨⟨rfl,rfl,rfl⟩,hk⟩
 have hs:=BL (G:=ae) l (by omega)
 rw [show l.length=(l.map bw).length by simp] at hs
 refine (VCx.lift (xs:= [.row 3 0 0 (l.map bw).length,.fn (.func pA) [] []]) [1] [] bg (by decide) nodup_nil (λk hk=> ?_) (by simp) (λ_ _=>zero_le _) rfl ?_ (Q:=λx T'=>x=.val (.tuple #[])∧T'=⟨[.row ((dn l).map bw).flatten],[]⟩) (λx T' hq=> ?_)).mono ?_
 ·simp only [mem_cons,not_mem_nil,or_false] at hk
  subst hk
  exact ⟨_,rfl,rfl⟩
 ·have hg:VT.give (nW (bQ p s d sp dp) (l.map bw).length (l.map bw).flatten) [1] []=⟨[.row (l.map bw).flatten],[]⟩:=by
   simp only [VT.give,nW,map_cons,map_nil,getElem?_cons_zero,getElem?_cons_succ,getD_some,yr]
  rw [hg]
  exact hs
 ·rw [hq.2];exact ⟨le_refl 1,zero_le _⟩
 ·rintro x T' ⟨y,T2,⟨rfl,rfl⟩,rfl,rfl⟩
  have hb:VT.back (nW (bQ p s d sp dp) (l.map bw).length (l.map bw).flatten) [1] [] ⟨[.row ((dn l).map bw).flatten],[]⟩=nW (bQ p s d sp dp) (l.map bw).length ((dn l).map bw).flatten:=by
   simp only [VT.back,nW,length_cons,map_cons,map_nil,yr,aT]
   simp [aT]
  rw [hb]
  exact hk
theorem BM (l:List Bk):∀c∈(l.map bw).flatten,FreeT c:=λc hc=>by
 rw [ko] at hc
 obtain ⟨v,_,rfl⟩:=mem_map.1 hc
 exact .val _
theorem Ff (key:Int)(l:List Bk)(hl:l.length≤1000)(hky:key=jz p s d sp dp)(K:KX)(hK:K .normal (ay 38 vQ (pB key (l.map bd) ((bc key 0 l).map bw) (l.map bd).length)) (rf (bQ p s d sp dp) ((bc key 0 l).map bw).length) []):
  VWx prog ae none 0 (ax prog j8 0) (ay 38 vQ (pB key (l.map bd) [] 0)) (rf (bQ p s d sp dp) 0) [] K:=by
 let A:Nat→List (List TV):=λj=>(bc key 0 (l.take j)).map bw
 let sl:Nat→List TV:=λj=>pB key (l.map bd) (A j) j
 let TT:Nat→VT:=λj=>rf (bQ p s d sp dp) (A j).length
 refine fv (f:=j8) (id:=0) (by kernel_rfl) 38 vQ (λj=>l.length-j) sl TT (λj=>j≤l.length) 1 1 (λ_ _=>⟨le_refl _,le_refl _⟩)
  (λe vs T=>e=.normal∧vs=sl l.length∧T=TT l.length) (λj hj=> ?_) 0 (zero_le _) K (λe vs T ⟨h1,h2,h3⟩=> ?_)
 ·have hC:aQ prog ae (az [(LH,BI key λi w=>dh key i w)]):=aE λq hq=>by
   obtain rfl:=mem_singleton.1 hq
   intro ro ys T K h
   have h':BI key (λi w=>dh key i w) ro ys T K:=h
   clear h
   unfold BI at h'
   split at h'
   ·obtain ⟨rfl,hk⟩:=h'
    exact VCx.liftPure bg (VCx.ofCalls rfl (IG _ _ _) λ_ _=>rfl) rfl (λ_ _=>rfl) hk
   ·exact h'.elim
  by_cases hlt:j<l.length
  ·obtain ⟨b,hb⟩:∃b,l[j]?=some b:=⟨_,getElem?_eq_getElem hlt⟩
   have hstep:=BF key l j b hb
   have hlen:=nU key (l.take j) 0
   have hlen2:(l.take j).length≤l.length:=by simp;omega
   have hw:=fV j (by omega)
   have hAl:(A j).length≤1000:=by simp only [A,length_map];omega
   refine cn ah ag hC ak (C4 p s d sp dp key b.1 b.2.1 b.2.2 (λi w=>dh key i w) (l.map bd) (A j) j _) ?_
   refine aZ (decide_eq_true (by simp only [length_map];omega)) ⟨rV rfl rfl (natCast_nonneg _) (by simp only [toNat_natCast,getElem?_map,hb];rfl),aL (λhwt=> ?_) (λhwt=> ?_)⟩
   ·have hwt':0<b.2.2:=by simpa using hwt
    rw [if_pos hwt'] at hstep
    have hst:A (j+1)=A j++ [yh j b.1 (dh key b.1 b.2.2)]:=by simp only [A,hstep,map_append];rfl
    refine ⟨rfl,Fe (T1:=⟨[.cells (bQ p s d sp dp),.cells (BH b.1 b.2.1 b.2.2)],[((A j).length,3,true)]⟩) (es2:= [yh j b.1 (dh key b.1 b.2.2)]) (by simp [aq,dU,cw,bQ,BH]) rfl (by simp only [length_cons,length_nil];omega),rfl,rfl,j+1,hlt,by simp only;omega,.inr ⟨?_,?_⟩⟩
    ·simp only [TT,hst,length_append,length_cons,length_nil];rfl
    ·have e3:(A j).length+1=(A (j+1)).length:=by rw [hst];simp
     rw [←hst,e3]
     simp only [A,av,TV.ren,jL,mf,Tok.ren]
     simp only [sl,pB,hw]
     rfl
   ·have hwt':¬0<b.2.2:=by simpa using hwt
    rw [if_neg hwt',append_nil] at hstep
    have hst:A (j+1)=A j:=by simp only [A,hstep]
    refine ⟨rfl,rfl,j+1,hlt,by simp only;omega,.inr ⟨?_,?_⟩⟩
    ·simp only [TT,hst];rfl
    ·rw [←hst]
     simp only [A,av,TV.ren,jL,mf,Tok.ren]
     simp only [sl,pB,hw]
     rfl
  ·obtain rfl:j=l.length:=by omega
   refine cn ah ag hC ak (C4 p s d sp dp key 0 0 0 (λi w=>dh key i w) (l.map bd) (A l.length) l.length _) ?_
   exact aA (decide_eq_false (by simp)) ⟨rfl,rfl,rfl,rfl,rfl⟩
 ·subst h1 h2 h3
  have e1:sl l.length=pB key (l.map bd) ((bc key 0 l).map bw) (l.map bd).length:=by simp only [sl,A,take_length,length_map]
  have e2:TT l.length=rf (bQ p s d sp dp) ((bc key 0 l).map bw).length:=by simp only [TT,A,take_length]
  rw [e1,e2]
  exact hK
theorem I2 (l:List Bk)(hl:l.length≤1000):VCx prog ae 0 j8 [.agg (bQ p s d sp dp),.vec 3 (l.map bd) .none] ⟨[],[]⟩ λx T'=>x=.vec 3 ((dn (bc (jz p s d sp dp) 0 l)).map bw) .none∧T'=⟨[],[]⟩:=by
 have hkv:∀ro ys T K,E8 (bQ p s d sp dp) (jz p s d sp dp) ro ys T K→VCx prog ae ro IJ ys T K:=by
  rintro ro ys T K ⟨rfl,hk⟩
  exact VCx.liftPure bg (VCx.ofCalls rfl (Mg p s d sp dp) λ_ _=>rfl) rfl (λ_ _=>rfl) hk
 have hround:=Ff p s d sp dp (jz p s d sp dp) l hl rfl
 have hsl:=nU (jz p s d sp dp) l 0
 generalize jz p s d sp dp=key at*
 by_cases hL:bc key 0 l= []
 ·have hS:dn (bc key 0 l)= []:=by rw [hL];simp [dn]
  rw [hL] at hround
  refine VCx.keepQ 0 0 (le_refl _) (le_refl _) (ap ah ag (aE λq hq=> ?_) (cq λq hq=>by obtain rfl:=mem_singleton.1 hq;exact dA λK hK=>hround K hK) (IM p s d sp dp key (l.map bd) _) ?_)
  ·simp only [mem_cons,not_mem_nil,or_false] at hq
   rcases hq with rfl | rfl
   ·exact hkv
   ·exact I0
  ·refine ⟨rfl,rfl,⟨rfl,rfl,rfl,⟨rfl,trivial⟩,rfl,rfl,rfl⟩,⟨rfl,rfl⟩,?_,rfl⟩
   rw [hS];rfl
 ·have hpos:0<((bc key 0 l).map bw).length:=by rw [length_map];exact List.length_pos_iff.2 hL
  have hlen:((dn (bc key 0 l)).map bw).length=((bc key 0 l).map bw).length:=by simp [vO]
  have hlp:ek prog ae (IL (bQ p s d sp dp) key (l.map bd) ((bc key 0 l).map bw) (ax prog j8 0)):=cq λq hq=>by
   obtain rfl:=mem_singleton.1 hq
   refine tu (vs1:=pB key (l.map bd) ((bc key 0 l).map bw) (l.map bd).length) rfl rfl hpos (BM _) (λo ho=> ?_) (λK hK=>hround K hK)
   simp only [rf,mem_cons,not_mem_nil,or_false] at ho
   subst ho
   intro c hc
   simp only [bQ,mem_cons,not_mem_nil,or_false] at hc
   rcases hc with rfl | rfl | rfl | rfl | rfl<;>exact .val _
  refine VCx.keepQ 0 0 (le_refl _) (le_refl _) ((VCx.freeze (size:=3) (es:=(dn (bc key 0 l)).map bw) (Q:=λT'=>T'.keep 0 0=⟨[],[]⟩) (ap ah ag (aE λq hq=> ?_) hlp (IN p s d sp dp key (l.map bd) ((bc key 0 l).map bw) ((dn (bc key 0 l)).map bw) _) ?_)).mono ?_)
  ·simp only [mem_cons,not_mem_nil,or_false] at hq
   rcases hq with rfl | rfl
   ·exact hkv
   ·exact I1 p s d sp dp _ (by omega)
  ·refine ⟨rfl,rfl,⟨rfl,rfl,rfl,⟨rfl,trivial⟩,rfl,rfl,rfl,rfl⟩,⟨rfl,rfl,rfl⟩,1,0,_,rfl,?_,rfl⟩
   rw [←hlen];exact kp rfl (λe he=>by obtain ⟨x,_,rfl⟩:=mem_map.1 he;rfl)
  ·rintro x T' ⟨rfl,hq⟩
   exact ⟨by simp only [TV.ren,mf,Tok.ren],hq⟩
def ku (key:Int)(l:List Bk):Option Bk:=match dn (bc key 0 l) with
 |[]=>none
 |h::_=>l[h.1.toNat]?
theorem tB (key:Int):∀(l:List Bk) (k:Nat) (x:Bk),x∈bc key k l→∃j b,l[j]?=some b∧x=(((k+j:Nat):Int),b.1,dh key b.1 b.2.2)∧0<b.2.2
 |[],_,_,h=>by simp [bc] at h
 |b::l,k,x,h=>by
  unfold bc at h
  have rest:x∈bc key (k+1) l→∃j b',(b::l)[j]?=some b'∧x=(((k+j:Nat):Int),b'.1,dh key b'.1 b'.2.2)∧0<b'.2.2:=λh=>by
   obtain ⟨j,b',h1,h2,h3⟩:=tB key l (k+1) x h
   exact ⟨j+1,b',by simpa using h1,by rw [h2];congr 2;omega,h3⟩
  split at h
  ·rcases mem_cons.1 h with rfl | h
   ·exact ⟨0,b,rfl,by simp,by assumption⟩
   ·exact rest h
  ·exact rest h
theorem vR (key:Int):∀(l:List Bk) (k:Nat) (b:Bk),b∈l→0<b.2.2→∃j:Int,(j,b.1,dh key b.1 b.2.2)∈bc key k l
 |[],_,_,h,_=>by simp at h
 |a::l,k,b,h,hw=>by
  unfold bc
  rcases mem_cons.1 h with rfl | h
  ·exact ⟨k,by rw [if_pos hw];exact mem_cons_self⟩
  ·obtain ⟨j,hj⟩:=vR key l (k+1) b h hw
   refine ⟨j,?_⟩
   split
   ·exact mem_cons_of_mem _ hj
   ·exact hj
theorem vS {key:Int}{l:List Bk}{h:Bk}{r:List Bk}(e:dn (bc key 0 l)=h::r):∃b,l[h.1.toNat]?=some b∧0≤h.1∧h=(h.1,b.1,dh key b.1 b.2.2)∧0<b.2.2∧∀y∈bc key 0 l,y.2.2≤h.2.2:=by
 have hp:(dn (bc key 0 l)).Perm (bc key 0 l):=List.mergeSort_perm _ _
 have hm:h∈bc key 0 l:=hp.mem_iff.1 (by rw [e];exact mem_cons_self)
 obtain ⟨j,b,h1,h2,h3⟩:=tB key l 0 h hm
 rw [zero_add] at h2
 refine ⟨b,by rw [h2];simpa using h1,by rw [h2];simp,by rw [h2],h3,λy hy=> ?_⟩
 have hso:(dn (bc key 0 l)).Pairwise λa b=>(!(ltOf fB) b a)=true:=List.pairwise_mergeSort (le:=λx y=> !(ltOf fB) y x) (λa b c h1 h2=>by
   simp only [not_eq_true',iv] at*;omega) (λa b=>by
   have:=iv a b;have:=iv b a
   cases h1:ltOf fB b a<;>cases h2:ltOf fB a b<;>simp
   have q1:=(qx b a).1 h1;have q2:=(qx a b).1 h2;omega) _
 rw [e] at hso
 have hy':y∈h::r:=by rw [←e];exact hp.mem_iff.2 hy
 rcases mem_cons.1 hy' with rfl | hy'
 ·exact Int.le_refl _
 ·have:=(List.pairwise_cons.1 hso).1 y hy'
  simp only [not_eq_true',iv] at this
  omega
theorem Dc {key:Int}{l:List Bk}{b:Bk}(h:ku key l=some b):b∈l∧0<b.2.2∧∀y∈l,0<y.2.2→dh key y.1 y.2.2≤dh key b.1 b.2.2:=by
 unfold ku at h
 cases e:dn (bc key 0 l) with
 |nil=>rw [e] at h;cases h
 |cons hd r=>
  rw [e] at h
  obtain ⟨b',h1,_,h2,h3,h4⟩:=vS e
  simp only [h1,Option.some.injEq] at h
  subst h
  refine ⟨mem_of_getElem? h1,h3,λy hy hw=> ?_⟩
  obtain ⟨j,hj⟩:=vR key l 0 y hy hw
  have h5:=h4 _ hj
  rw [h2] at h5
  exact h5
def LL (o:Option Bk):TV:=.tup [.agg (bd (o.getD (0,0,0))),.val (.bool o.isSome)]
theorem I3 (l:List Bk)(hl:l.length≤1000):VCx prog ae 0 C3 [.agg (bQ p s d sp dp),.vec 3 (l.map bd) .none] ⟨[],[]⟩ λx T'=>x=LL (ku (jz p s d sp dp) l)∧T'=⟨[],[]⟩:=by
 have hse:=I2 p s d sp dp l hl
 generalize jz p s d sp dp=key at*
 have hC:∀R:List Bk,dn (bc key 0 l)=R→aQ prog ae (az [(j8,hJ [.agg (bQ p s d sp dp),.vec 3 (l.map bd) .none] (.vec 3 (R.map bw) .none))]):=λR hR=>aE λq hq=>by
  obtain rfl:=mem_singleton.1 hq
  rintro ro ys T K ⟨rfl,hk⟩
  exact VCx.liftPure bg (by rw [hR] at hse;exact hse) (by simp only [av,TV.ren,Hj,jL,Tok.ren]) (λ_ _=>by simp only [TV.ren,mf,Tok.ren]) hk
 cases e:dn (bc key 0 l) with
 |nil=>
  refine VCx.keepQ 0 0 (le_refl _) (le_refl _) (ap ah ag (hC [] e) ak (IP p s d sp dp (l.map bd) _) ?_)
  refine ⟨rfl,?_,rfl⟩
  unfold ku;rw [e];rfl
 |cons h r=>
  obtain ⟨b,h1,h0,h2,_⟩:=vS e
  refine VCx.keepQ 0 0 (le_refl _) (le_refl _) (ap ah ag (hC (h::r) e) ak (IQ p s d sp dp h.1 h.2.1 h.2.2 b.1 b.2.1 b.2.2 (l.map bd) (r.map bw) _) ?_)
  refine ⟨rfl,Fd rfl rfl (by decide) rfl,rV rfl rfl h0 (by rw [getElem?_map,h1];rfl),?_,rfl⟩
  unfold ku;rw [e];simp only [h1];rfl
end
end
section
open Go.RowKit Go.Maps Go.Sort
def cQ:List Mb→List Nat→Nat→Mb
 |m::S,b::st,s=>bif beq b s then m else cQ S st s
 |_,_,_=>FS
def zV (S:List Mb)(st:List Nat):Es:=zipWith (λs b=>(aC (aS s),mh s,b)) S st
theorem Dd {a b:Nat}(h:a≠b):beq a b=false:=by
 cases hb:beq a b with
 |false=>rfl
 |true=>exact absurd (Nat.eq_of_beq_eq_true hb) h
theorem uK:∀{S:List Mb} {st:List Nat},st.length=S.length→st.Nodup→st.map (cQ S st)=S
 |[],[],_,_=>rfl
 |[],_::_,h,_=>by simp at h
 |_::_,[],h,_=>by simp at h
 |m::S,b::st,h,hd=>by
  obtain ⟨h1,h2⟩:=List.nodup_cons.1 hd
  have ih:=uK (S:=S) (st:=st) (by simpa using h) h2
  have e0:cQ (m::S) (b::st) b=m:=by simp only [cQ,beq_refl,cond_true]
  rw [map_cons,e0]
  congr 1
  refine (List.map_congr_left λs hs=> ?_).trans ih
  have:beq b s=false:=Dd λe=>h1 (e▸hs)
  simp only [cQ,this,cond_false]
theorem F0:∀{S:List Mb} {st:List Nat} {k:Value} {v:TV} {s:Nat},st.length=S.length→st.Nodup→(k,v,s)∈zV S st→k=aC (aS (cQ S st s))∧v=mh (cQ S st s)∧s∈st∧cQ S st s∈S∧(zV S st).find? (λx=>beq x.2.2 s)=some (k,v,s)
 |[],_,_,_,_,_,_,h=>by simp [zV] at h
 |_::_,[],_,_,_,h,_,_=>by simp at h
 |m::S,b::st,k,v,s,h,hd,hm=>by
  obtain ⟨h1,h2⟩:=List.nodup_cons.1 hd
  have hz:zV (m::S) (b::st)=(aC (aS m),mh m,b)::zV S st:=rfl
  rw [hz] at hm ⊢
  rcases mem_cons.1 hm with he | hm
  ·injection he with e1 e2;injection e2 with e2 e3
   subst e1 e2 e3
   have e0:cQ (m::S) (s::st) s=m:=by simp only [cQ,beq_refl,cond_true]
   rw [e0,List.find?_cons]
   exact ⟨rfl,rfl,mem_cons_self,mem_cons_self,by simp only [beq_refl]⟩
  ·obtain ⟨q1,q2,q3,q4,q5⟩:=F0 (S:=S) (st:=st) (by simpa using h) h2 hm
   have hb:beq b s=false:=Dd λe=>h1 (e▸q3)
   have e0:cQ (m::S) (b::st) s=cQ S st s:=by simp only [cQ,hb,cond_false]
   rw [e0,List.find?_cons]
   exact ⟨q1,q2,mem_cons_of_mem _ q3,mem_cons_of_mem _ q4,by simp only [hb];exact q5⟩
theorem kM {z:Int}(h0:-1000000000000000≤z)(h1:z≤1000000000000000):i64.wrap z=z:=by
 simp only [wrap,IntKind.bits,IntKind.signed];simp;omega
section
variable {n:Int}{lk:Value→Option TV}{es:Es}{ck:Nat}{S:List Mb}{st:List Nat}
theorem PoOk.zw (h:PoOk lk es ck S st):es=zV S st:=h.m.ents
theorem PoOk.lost (h:PoOk lk es ck S st)(seen:List Nat):gi seen ck es=false:=by
 unfold gi
 cases he:es with
 |nil=>simp
 |cons e l=>
  have h0:e.2.2∈es.map (·.2.2):=by rw [he];exact mem_cons_self
  rw [h.m.stamps] at h0
  have:=h.m.born _ h0
  have h1:decide (ck≤e.2.2)=false:=decide_eq_false (by omega)
  simp [h1]
theorem PoOk.nx (h:PoOk lk es ck S st){seen:List Nat}{k:Value}{v:TV}{s:Nat}(hx:uH k v s ck seen es):(k,v,s)∈es∧s∉seen:=by
 unfold uH at hx
 have hn:gO ck seen es= []:=by
  unfold gO
  refine List.filter_eq_nil_iff.2 λe he=> ?_
  have h0:e.2.2∈es.map (·.2.2):=mem_map_of_mem (f:=λe:Value × TV × Nat=>e.2.2) he
  rw [h.m.stamps] at h0
  have:=h.m.born _ h0
  simp [this]
 rw [hn,append_nil] at hx
 unfold ci at hx
 obtain ⟨h1,h2⟩:=List.mem_filter.1 hx
 refine ⟨h1,?_⟩
 simp at h2
 exact h2.1
theorem PoOk.no (h:PoOk lk es ck S st){seen:List Nat}(hx:xZ ck seen es):∀s∈st,s∈seen:=by
 intro s hs
 rw [←h.m.stamps] at hs
 obtain ⟨e,he,rfl⟩:=mem_map.1 hs
 have:=List.filter_eq_nil_iff.1 hx e he
 have h0:e.2.2∈es.map (·.2.2):=mem_map_of_mem (f:=λe:Value × TV × Nat=>e.2.2) he
 rw [h.m.stamps] at h0
 have hb:=h.m.born _ h0
 simp [hb] at this
 exact this
def WtInv (st seen:List Nat):Prop:=seen.Nodup∧∀s∈seen,s∈st
theorem WtInv.le {seen:List Nat}(h:WtInv st seen):seen.length≤st.length:=h.1.length_le_of_subset h.2
theorem WtInv.done (h:PoOk lk es ck S st){seen:List Nat}(hi:WtInv st seen)(hx:xZ ck seen es)(p:Mb→Bool):bF p (seen.map (cQ S st))=bF p S:=by
 have hp:seen.Perm st:=(List.perm_ext_iff_of_nodup hi.1 h.m.borns).2 λa=>⟨hi.2 a,h.no hx a⟩
 rw [CQ (hp.map (cQ S st)),uK h.m.slen h.m.borns]
theorem nX (h:PoOk lk es ck S st)(seen:List Nat)(l:List VO):VT.keep ⟨(jN n lk es ck seen).objs++l,[]⟩ 3 0=jN n lk es ck seen:=by
 have e:=h.ren (ai 3) (ai 0)
 simp only [VT.keep,jN,cons_append,List.nil_append,take_succ_cons,take_zero,map_cons,map_nil,e]
 rfl
theorem F1 (h:PoOk lk es ck S st){seen:List Nat}(hi:WtInv st seen){k:Value}{v:TV}{s:Nat}(hx:uH k v s ck seen es):
  k=aC (aS (cQ S st s))∧v=mh (cQ S st s)∧cQ S st s∈S∧es.find? (λx=>beq x.2.2 s)=some (k,v,s)∧WtInv st (seen++ [s]):=by
 obtain ⟨hm,hns⟩:=h.nx hx
 have hm':=hm
 rw [h.zw] at hm'
 obtain ⟨q1,q2,q3,q4,q5⟩:=F0 h.m.slen h.m.borns hm'
 rw [h.zw]
 exact ⟨q1,q2,q4,q5,List.nodup_append.2 ⟨hi.1,by simp,λa ha b hb e=>by
  rw [mem_singleton.1 hb] at e
  exact hns (e▸ha)⟩,λa ha=>by
  rcases List.mem_append.1 ha with ha | ha
  ·exact hi.2 a ha
  ·rw [mem_singleton.1 ha];exact q3⟩
theorem De (h:PoOk lk es ck S st){seen:List Nat}(hi:WtInv st seen)(p:Mb→Bool):0≤bF p (seen.map (cQ S st))∧bF p (seen.map (cQ S st))≤1600:=by
 have hb:=nT (p:=p) (S:=seen.map (cQ S st)) λm hm=>by
  obtain ⟨s,hs,rfl⟩:=mem_map.1 hm
  have:cQ S st s∈st.map (cQ S st):=mem_map_of_mem (hi.2 s hs)
  rw [uK h.m.slen h.m.borns] at this
  exact h.ok.wt _ this
 have h1:=hi.le
 have h2:=h.m.slen
 have h3:=h.ok.few
 rw [length_map] at hb
 omega
theorem Fg (h:PoOk lk es ck S st)(K:KX)(hK:∀seen,K .normal (ay 28 mj (i8 jM (bF dv S))) (jN n lk es ck seen) []):
  VWx prog ae none 0 (ax prog fj 0) (ay 28 mj (i8 jM 0)) (jN n lk es ck []) [] K:=by
 let H:List Nat→Int:=λseen=>bF dv (seen.map (cQ S st))
 let E:List Nat→Mb:=λl=>cQ S st (l.getLast?.getD 0)
 refine fv (f:=fj) (id:=0) (by kernel_rfl) 28 mj (λs:List Nat=>st.length-s.length) (λseen=>i8 jM (H seen)) (λseen=>jN n lk es ck seen) (WtInv st) 3 0 (λs _=>⟨le_refl _,le_refl _⟩)
  (λe vs T=>e=.normal∧vs=i8 jM (bF dv S)∧∃seen,T=jN n lk es ck seen) (λseen hs=> ?_) [] ⟨nodup_nil,λs h=>by cases h⟩ K ?_
 rotate_left
 ·rintro e vs T ⟨rfl,rfl,seen,rfl⟩
  exact hK seen
 have hL:ek prog ae (uG 1000004 (qY 14 15 16,dC prog fj 4) 1000999 (qY 14 15 16,dC prog fj 4)):=zL (ti (by kernel_rfl)) (ti (by kernel_rfl))
 refine cn ah ag aw hL (Iq n lk es ck (H seen) seen (λl=>aS (E l)) (λl=>(E l).1.2.1) (λl=>(E l).1.2.2) (λl=>(E l).2.1) (λl=>(E l).2.2) _) ⟨rfl,⟨rfl,h.lost seen,rfl⟩,λhno=> ?_,λk v s hnx=> ?_⟩
 ·exact ⟨rfl,rfl,rfl,by rw [←hs.done h hno];rfl,seen,rfl⟩
 ·obtain ⟨rfl,rfl,hmS,hfind,hi2⟩:=F1 h hs hnx
  have hlast:∀l:List Nat,(l++ [s]).getLast?=some s:=λl=>by simp
  have hE:E (seen++ [s])=cQ S st s:=by simp only [E,hlast,getD_some]
  have hle:=hi2.le
  have hw:=h.ok.wt _ hmS
  have hb:0≤H seen∧H seen≤1600:=De h hs dv
  have hst:H (seen++ [s])=H seen+bif dv (cQ S st s) then (cQ S st s).1.2.2 else 0:=by
   simp only [H,map_append,map_cons,map_nil];exact rP _ _
  simp only [hE]
  have hmu:st.length-(seen++ [s]).length<st.length-seen.length:=by
   simp only [length_append,length_cons,length_nil] at hle ⊢
   omega
  refine ⟨.ent _ rfl rfl ?_,?_⟩
  ·show jG _ (.ptr 2 0)=_
   simp only [jG,getElem?_cons_succ,getElem?_cons_zero,hlast,beq_refl,cond_true,hfind]
   rfl
  ·have hsum:∀u d:Bool,(cQ S st s).2.1=u→(cQ S st s).2.2=d→(bif dv (cQ S st s) then (cQ S st s).1.2.2 else 0)=bif u&& !d then (cQ S st s).1.2.2 else 0:=λu d hu hd=>by simp only [dv,hu,hd]
   refine aL (λhu=>aL (λhd=> ?_) (λhd=> ?_)) (λhu=> ?_)
   ·have hd':(cQ S st s).2.2=false:=by simpa using hd
    refine ⟨rfl,rfl,seen++ [s],hi2,hmu,.inr ⟨nX h (seen++ [s]) _,?_⟩⟩
    show _=i8 _ (H (seen++ [s]))
    rw [hst]
    rw [hsum _ _ hu hd',kM (by omega) (by omega)];rfl
   ·have hd':(cQ S st s).2.2=true:=by simpa using hd
    refine ⟨rfl,rfl,seen++ [s],hi2,hmu,.inr ⟨nX h (seen++ [s]) _,?_⟩⟩
    show _=i8 _ (H (seen++ [s]))
    rw [hst]
    rw [hsum _ _ hu hd'];simp;rfl
   ·have hz:(bif dv (cQ S st s) then (cQ S st s).1.2.2 else 0)=0:=by simp [dv,hu]
    refine ⟨rfl,rfl,seen++ [s],hi2,hmu,.inr ⟨nX h (seen++ [s]) _,?_⟩⟩
    show _=i8 _ (H (seen++ [s]))
    rw [hst]
    rw [hz,Int.add_zero];rfl
theorem Fh (h:PoOk lk es ck S st)(K:KX)(hK:∀seen,K .normal (ay 28 mj (i8 rQ (bF (λ_=>true) S))) (jN n lk es ck seen) []):
  VWx prog ae none 0 (ax prog fj 0) (ay 28 mj (i8 rQ 0)) (jN n lk es ck []) [] K:=by
 let H:List Nat→Int:=λseen=>bF (λ_=>true) (seen.map (cQ S st))
 let E:List Nat→Mb:=λl=>cQ S st (l.getLast?.getD 0)
 refine fv (f:=fj) (id:=0) (by kernel_rfl) 28 mj (λs:List Nat=>st.length-s.length) (λseen=>i8 rQ (H seen)) (λseen=>jN n lk es ck seen) (WtInv st) 3 0 (λs _=>⟨le_refl _,le_refl _⟩)
  (λe vs T=>e=.normal∧vs=i8 rQ (bF (λ_=>true) S)∧∃seen,T=jN n lk es ck seen) (λseen hs=> ?_) [] ⟨nodup_nil,λs h=>by cases h⟩ K ?_
 rotate_left
 ·rintro e vs T ⟨rfl,rfl,seen,rfl⟩
  exact hK seen
 have hL:ek prog ae (uG 1000004 (qY 14 15 16,dC prog fj 4) 1000999 (qY 14 15 16,dC prog fj 4)):=zL (ti (by kernel_rfl)) (ti (by kernel_rfl))
 refine cn ah ag aw hL (Ir n lk es ck (H seen) seen (λl=>aS (E l)) (λl=>(E l).1.2.1) (λl=>(E l).1.2.2) (λl=>(E l).2.1) (λl=>(E l).2.2) _) ⟨rfl,⟨rfl,h.lost seen,rfl⟩,λhno=> ?_,λk v s hnx=> ?_⟩
 ·exact ⟨rfl,rfl,rfl,by rw [←hs.done h hno];rfl,seen,rfl⟩
 ·obtain ⟨rfl,rfl,hmS,hfind,hi2⟩:=F1 h hs hnx
  have hlast:∀l:List Nat,(l++ [s]).getLast?=some s:=λl=>by simp
  have hE:E (seen++ [s])=cQ S st s:=by simp only [E,hlast,getD_some]
  have hle:=hi2.le
  have hw:=h.ok.wt _ hmS
  have hb:0≤H seen∧H seen≤1600:=De h hs (λ_=>true)
  have hst:H (seen++ [s])=H seen+bif (λ_=>true) (cQ S st s) then (cQ S st s).1.2.2 else 0:=by
   simp only [H,map_append,map_cons,map_nil];exact rP _ _
  simp only [hE]
  have hmu:st.length-(seen++ [s]).length<st.length-seen.length:=by
   simp only [length_append,length_cons,length_nil] at hle ⊢
   omega
  refine ⟨.ent _ rfl rfl ?_,?_⟩
  ·show jG _ (.ptr 2 0)=_
   simp only [jG,getElem?_cons_succ,getElem?_cons_zero,hlast,beq_refl,cond_true,hfind]
   rfl
  ·refine ⟨rfl,rfl,seen++ [s],hi2,hmu,.inr ⟨nX h (seen++ [s]) _,?_⟩⟩
   show _=i8 _ (H (seen++ [s]))
   rw [hst]
   rw [kM (by omega) (by omega)];rfl
theorem Df (h:PoOk lk es ck S st)(g:Nat)(p:Mb→Bool)(hl:∀K,(∀seen,K .normal (ay 28 mj (i8 g (bF p S))) (jN n lk es ck seen) [])→VWx prog ae none 0 (ax prog fj 0) (ay 28 mj (i8 g 0)) (jN n lk es ck []) [] K):
  VCx prog ae 0 fj [.ptr 0 0,.fn (.func g) [] []] (pT n lk es ck) (vL n lk es ck (.val (.int .i64 (bF p S)))):=by
 refine VCx.keepQ 2 0 (le_refl _) (le_refl _) (ap ah ag aw (cq λq hq=>by obtain rfl:=mem_singleton.1 hq;exact dA λK hK=>hl K hK) (KM n lk es ck g (bF p S) _) ?_)
 exact ⟨rfl,⟨rfl,rfl,rfl,trivial,rfl,rfl,rfl⟩,λseen=>⟨rfl,ey h _ _⟩⟩
theorem I4 (h:PoOk lk es ck S st)(hn:1≤n∧n≤100):VCx prog ae 0 CV [.ptr 0 0] (pT n lk es ck) (vL n lk es ck (.val (.bool (uF n S)))):=by
 have hC:aQ prog ae (az [(fj,FU n lk es ck (bF dv S) (bF (λ_=>true) S))]):=aE λq hq=>by
  obtain rfl:=mem_singleton.1 hq
  intro ro ys T K hw
  have h':FU n lk es ck (bF dv S) (bF (λ_=>true) S) ro ys T K:=hw
  clear hw
  unfold FU at h'
  split at h'
  ·obtain ⟨⟨rfl,hg,rfl⟩,hk⟩:=h'
   rcases hg with rfl | rfl
   ·refine (Df h jM dv λK hK=>Fg h K hK).mono ?_
    rintro x T' ⟨rfl,rfl⟩
    exact hk
   ·refine (Df h rQ (λ_=>true) λK hK=>Fh h K hK).mono ?_
    rintro x T' ⟨rfl,rfl⟩
    exact hk
  ·exact h'.elim
 have b1:=nT (p:=dv) h.ok.wt
 have b2:=nT (p:=λ_=>true) h.ok.wt
 have hf:=h.ok.few
 refine VCx.keepQ 2 0 (le_refl _) (le_refl _) (ap ah ag hC ak (KL n lk es ck (bF dv S) (bF (λ_=>true) S) _) ?_)
 refine ⟨⟨rfl,.inl rfl,rfl⟩,⟨rfl,trivial⟩,⟨rfl,.inr rfl,rfl⟩,⟨rfl,trivial⟩,?_⟩
 have e1:(bif beq 51 jM then bF dv S else bF (λ_=>true) S)=bF dv S:=rfl
 have e2:(bif beq 78 jM then bF dv S else bF (λ_=>true) S)=bF (λ_=>true) S:=rfl
 rw [e1,e2]
 refine aA (decide_eq_false (by omega)) (aA (decide_eq_false (by omega)) (aA (decide_eq_false (by omega)) (aA (decide_eq_false (by omega)) (aA (decide_eq_false (by omega)) (aA (decide_eq_false (by omega)) (aL (λh0=>⟨?_,ey h _ _⟩) (λh0=>⟨?_,ey h _ _⟩)))))))
 ·have h0':0<bF dv S:=by simpa using h0
  have hm:0≤n*bF (λ_=>true) S∧n*bF (λ_=>true) S≤100*1600:=⟨Int.mul_nonneg (by omega) b2.1,Int.mul_le_mul hn.2 (by omega) b2.1 (by omega)⟩
  rw [kM (by omega) (by omega),kM (by omega) (by omega)]
  simp only [TV.ren,uF,decide_eq_true h0',Bool.true_and,ge_iff_le]
 ·have h0':¬0<bF dv S:=by simpa using h0
  simp only [TV.ren,uF,decide_eq_false h0',Bool.false_and]
end
end
section
open Go.RowKit Go.Maps Go.Sort
theorem Fj {ro:Nat}{T T1:VT}{s x:Operand}{l:List (Nat × TV)}{es es2:List (List TV)}{k n:Nat}{bn:Bool}(hs:cw T 3 (aq ae l s)=some (es,k,n,bn,T1))(hx:gL 3 (aq ae l x)=some es2)(hb:es.length+es2.length≤3000):
    aM prog ae ro T (.call ⟨.builtin .append,#[s,x],#[22,22]⟩) l (.vec 3 (es++es2) (.tail k (n+es2.length))) {T1 with tails:=T1.tails.set k (n+es2.length,3,bn)}:=by
  obtain ⟨inf,i1,i2,i3,i4⟩:=yq
  have h:=iG (inf:=inf) (P:=prog) (G:=ae) (ro:=ro) (T:=T) (T1:=T1) (t:=22) (tx:=22) (s:=s) (x:=x) (l:=l) (es:=es) (es2:=es2) (k:=k) (n:=n) (bn:=bn) Tryz.underlying22 i1 i4 (by rw [i2];rfl) (by rw [i2];decide) (by kernel_rfl) (by rw [i2];exact hs) (by rw [i2];exact hx)
    (by have h1:=i3
        have h2:=mul_le_mul hb h1
        omega)
  rw [i2] at h
  exact h
section
variable {n:Int}{lk:Value→Option TV}{es:Es}{ck:Nat}{S:List Mb}{st:List Nat}
def jR (S:List Mb):List (List TV):=(cd aS S).map λz=> [.val (aC z)]
theorem I5 (h:PoOk lk es ck S st):∀ro ys T K,Ip ⟨[pO n,.map kI lk es ck,.cells [.map 1]],[]⟩ (jR S) ro ys T K→VCx prog ae ro vH ys T K:=by
 rintro ro ys T K ⟨⟨rfl,rfl,rfl⟩,hk⟩
 refine (Hc (k:=2) (m:=1) (T:=⟨[pO n,.map kI lk es ck,.cells [.map 1]],[]⟩) rfl rfl h.m.keys (λz hz=> ?_) (λe he=> ?_) (by rw [h.m.stamps];exact h.m.borns) (by simp;have:=h.ok.few;omega)).mono ?_
 ·obtain ⟨s,hs,rfl⟩:=mem_map.1 hz
  have:=h.m.ids s hs
  omega
 ·have hm:e.2.2∈es.map (·.2.2):=mem_map_of_mem he
  rw [h.m.stamps] at hm
  exact h.m.born _ hm
 ·rintro x T' ⟨rfl,rfl⟩
  exact hk
def ox (S:List Mb)(l:List Int):List (List TV):=(jy aS lh S l).map λm=>bd m.1
theorem zW (f g:Nat→Option Nat)(S:List Mb)(l:List Int):bL f g (ox S l)=ox S l:=by
 unfold ox
 induction jy aS lh S l with
 |nil=>rfl
 |cons a l ih=>simp only [map_cons,bL,ih];rfl
theorem zX (f g:Nat→Option Nat)(S:List Mb):bL f g (jR S)=jR S:=by
 unfold jR
 induction cd aS S with
 |nil=>rfl
 |cons a l ih=>simp only [map_cons,bL,ih];rfl
theorem yu (h:PoOk lk es ck S st)(k:Nat)(l:List VO):VT.keep ⟨pO n:: .map kI lk es ck:: .cells [.map 1]::l,[(k,3,true)]⟩ 3 1=yd n lk es ck k:=by
 have e:=h.ren (ai 3) (ai 1)
 simp only [VT.keep,take_succ_cons,take_zero,map_cons,map_nil,e,yd]
 rfl
theorem Hk (h:PoOk lk es ck S st):ek prog ae (LE n lk es ck (jR S) (ox S (cd aS S)) (ax prog qZ 0)):=cq λp hp=>by
 obtain rfl:=mem_singleton.1 hp
 refine dA λK hK=> ?_
 have hlen:(jR S).length=(cd aS S).length:=length_map _
 have hfew:=h.ok.few
 have hil:=xW (ky:=aS) S
 let A:Nat→List (List TV):=λj=>ox S ((cd aS S).take j)
 let sl:Nat→List TV:=λj=>yc (jR S) (A j) j
 let TT:Nat→VT:=λj=>yd n lk es ck (A j).length
 refine fv (f:=qZ) (id:=0) (by kernel_rfl) 39 CX (λj=>(cd aS S).length-j) sl TT (λj=>j≤(cd aS S).length) 3 1 (λ_ _=>⟨le_refl _,le_refl _⟩)
  (λe vs T=>e=.normal∧vs=sl (cd aS S).length∧T=TT (cd aS S).length) (λj hj=> ?_) 0 (zero_le _) K (λe vs T ⟨h1,h2,h3⟩=> ?_)
 ·by_cases hlt:j<(cd aS S).length
  ·have hz:(cd aS S)[j]?=some (cd aS S)[j]:=getElem?_eq_getElem hlt
   generalize (cd aS S)[j]=z at hz
   obtain ⟨s,hf,hs,hsz⟩:=G8 (ky:=aS) (S:=S) (mem_of_getElem? hz)
   have hw:=fV j (by omega)
   have hl:lk (aC z)=some (mh s):=by rw [h.m.at];unfold dB at hf;rw [hf];rfl
   have he:(jR S)[j]?=some [.val (aC z)]:=by unfold jR;rw [getElem?_map,hz];rfl
   have hstep:A (j+1)=A j++bif lh s then [bd s.1] else []:=by
    simp only [A,ox,BB hz hf,map_append]
    cases lh s<;>rfl
   have htl:(A j).length≤100:=by
    have:=xY (ky:=aS) (p:=lh) (S:=S) (l:=(cd aS S).take j)
    simp only [A,ox,length_map,length_take] at this ⊢
    omega
   refine cn ah ag aw ak (CY n lk es ck (jR S) (A j) z s.1.1 s.1.2.1 s.1.2.2 s.2.1 s.2.2 j _) ?_
   have off:lh s=false→∀l,qt 39 0 (λj=>(cd aS S).length-j) sl TT (λj=>j≤(cd aS S).length) 3 1 j (λe vs T=>e=.normal∧vs=sl (cd aS S).length∧T=TT (cd aS S).length) .normal [.ptr 0 0,.fn (.func ya) [] [],.vec 3 (A j) (.tail 0 (A j).length),.vec 1 (jR S) .none,.val (.int .i64 (jR S).length),.val (.int .i64 (wrap i64 ((j:Int)+1)))] ⟨pO n:: .map kI lk es ck:: .cells [.map 1]::l,[((A j).length,3,true)]⟩ [] 39:=λhs l=>by
    rw [hs,cond_false,append_nil] at hstep
    refine ⟨rfl,rfl,j+1,hlt,by simp only;omega,.inr ⟨?_,?_⟩⟩
    ·simp only [TT,hstep];exact yu h _ _
    ·simp only [sl,yc,hw,hstep]
     simp only [A,av,TV.ren,zW,zX,Tok.ren]
     rfl
   refine aZ (decide_eq_true (by omega)) ⟨ir rfl rfl (natCast_nonneg _) (by simp only [toNat_natCast];exact he),dH ((kL (lk:=lk) (es:=es) (ck:=ck) rfl false).trans (by rw [hl];rfl)),aL (λhu=>aL (λhd=>aL (λhc=> ?_) (λhc=> ?_)) (λhd=> ?_)) (λhu=> ?_)⟩
   ·have hel:lh s=true:=by
     simp at hd hc
     simp [lh,dv,hu,hd,hc]
    rw [hel,cond_true] at hstep
    refine ⟨Fj (T1:=⟨[pO n,.map kI lk es ck,.cells [.map 1],.cells (aF s),.cells (aF s),.cells (aF s)],[((A j).length,3,true)]⟩) (es2:= [bd s.1]) (by simp [aq,dU,cw,kI,pO,aF]) rfl (by simp only [length_cons,length_nil];omega),rfl,rfl,j+1,hlt,by simp only;omega,.inr ⟨?_,?_⟩⟩
    ·have e3:(A j).length+1=(A (j+1)).length:=by rw [hstep];simp
     simp only [TT,←e3];exact yu h _ _
    ·have e3:(A j).length+1=(A (j+1)).length:=by rw [hstep];simp
     have e4:A j++ [gA s.1.1 s.1.2.1 s.1.2.2]=A (j+1):=hstep.symm
     rw [e4,e3]
     simp only [sl,yc,hw]
     simp only [A,av,TV.ren,zW,zX,Tok.ren]
     rfl
   ·exact off (by simp at hc;simp [lh];omega) _
   ·exact off (by simp at hd;simp [lh,dv,hd]) _
   ·exact off (by simp [lh,dv,hu]) _
  ·obtain rfl:j=(cd aS S).length:=by omega
   refine cn ah ag aw ak (CY n lk es ck (jR S) (A (cd aS S).length) 0 0 0 0 false false (cd aS S).length _) ?_
   exact aA (decide_eq_false (by omega)) ⟨rfl,rfl,rfl,rfl,rfl⟩
 ·subst h1 h2 h3
  have ht:(cd aS S).take (cd aS S).length=cd aS S:=take_length
  have e1:sl (cd aS S).length=yc (jR S) (ox S (cd aS S)) (jR S).length:=by simp only [sl,A,ht,hlen]
  have e2:TT (cd aS S).length=yd n lk es ck (ox S (cd aS S)).length:=by simp only [TT,A,ht]
  rw [e1,e2]
  exact hK
theorem I6 (S:List Mb):ox S (cd aS S)=(dI S).map bd:=by unfold ox dI;rw [map_map];rfl
theorem Hl (h:PoOk lk es ck S st):VCx prog ae 0 qZ [.ptr 0 0,.fn (.func ya) [] []] (pT n lk es ck) (vL n lk es ck (.vec 3 ((dI S).map bd) .none)):=by
 have hC:aQ prog ae (az [(vH,Ip ⟨[pO n,.map kI lk es ck,.cells [.map 1]],[]⟩ (jR S))]):=aE λp hp=>by
  obtain rfl:=mem_singleton.1 hp
  exact I5 h
 refine VCx.keepQ 2 0 (le_refl _) (le_refl _) (ap ah ag hC (Hk h) (KN n lk es ck (jR S) (ox S (cd aS S)) _) ?_)
 refine ⟨⟨rfl,rfl,rfl⟩,rfl,⟨rfl,rfl,rfl,⟨rfl,trivial⟩,rfl,rfl,rfl⟩,?_,ey h _ _⟩
 simp only [TV.ren,Tok.ren,I6,jL];rfl
theorem I7 (h:PoOk lk es ck S st):VCx prog ae 0 CW [.ptr 0 0] (pT n lk es ck) (vL n lk es ck (.vec 3 ((dI S).map bd) .none)):=by
 have hC:aQ prog ae (az [(qZ,LF n lk es ck ((dI S).map bd))]):=aE λp hp=>by
  obtain rfl:=mem_singleton.1 hp
  rintro ro ys T K ⟨⟨rfl,rfl,rfl⟩,hk⟩
  refine (Hl h).mono ?_
  rintro x T' ⟨rfl,rfl⟩
  exact hk
 refine VCx.keepQ 2 0 (le_refl _) (le_refl _) (ap ah ag hC ak (KO n lk es ck ((dI S).map bd) _) ?_)
 exact ⟨⟨rfl,rfl,rfl⟩,by simp only [TV.ren,jL,Tok.ren],ey h _ _⟩
end
end
section
open Go.RowKit
abbrev Bs:=List (List TV)
abbrev lr:=63
abbrev yv:=64
abbrev yw:=65
abbrev Dg:=29
abbrev Dh:=30
abbrev pC:=28
abbrev ri:=74
abbrev F2:=75
abbrev yx:=36
def jS (n:Int)(L:Bs):VO:=.cells [.val (.int .i64 n),.vec 5 L .none]
def b8 (n:Int)(L:Bs)(l:List VO):VT:=⟨jS n L::l,[]⟩
def zY:List Nat:= [1,4,10,11,12]
def vT (L:Bs)(i r j:Int):List TV:= [.val (.int .i64 i),.val (.int .i64 r),.vec 5 L .none,.val (.int .i64 L.length),.val (.int .i64 j)]
def LM (n:Int)(L:Bs)(i r:Int)(hit:Bool)(c0:Code):Nat→Option (bH × Code):=dk [(0,ig 24 zY [] (vT L i 0 0) (b8 n L []) λK=>bif hit then (∀cs,K .ret (ay 24 zY (vT L i r r)) (b8 n L [.cells cs]) []) else K .normal (ay 24 zY (vT L i 0 L.length)) (b8 n L []) [],c0)]
def yy (n:Int)(L:Bs)(i r:Int):ba:=λro ys T K=>(ro=0∧ys= [.ptr 0 0,.val (.int .i64 i)]∧T.objs[0]?=some (jS n L))∧K (.val (.int .i64 r)) T
def Di (n:Int)(L:Bs)(i:Int)(mb:List TV):ba:=λro ys T K=>(ro=0∧ys= [.ptr 0 0,.val (.int .i64 i)]∧T.objs[0]?=some (jS n L))∧K (.agg mb) T
def Dj (n:Int)(L:Bs)(i w:Int)(u d:Bool)(Is:Bs→Prop):ba:=λro ys T K=>(ro=0∧ys= [.ptr 0 0,.val (.int .i64 i),.val (.bool u),.val (.bool d),.val (.int .i64 w)]∧T.objs[0]?=some (jS n L))∧∀(e:Int) (L':Bs),Is L'→K (.val (.int .i64 e)) {T with objs:=T.objs.set 0 (jS n L')}
def Dk:List Nat:= [0,3,5]
def zZ (j:Int):List TV:= [.ptr 0 0,.ptr 1 0,.val (.int .i64 j)]
def LN (n:Int)(L:Bs)(i a c k:Int)(c0:Code):Nat→Option (bH × Code):=dk [(1,ig 88 Dk [] (zZ 0) (b8 n L [.cells (gA i a c)]) λK=>K .normal (ay 88 Dk (zZ k)) (b8 n L [.cells (gA i a c)]) [],c0)]
def yz (s:Nat)(T:VT)(n:Nat):VT:={T with tails:= [(n,s,false)]}
def i5 (fl:List TV)(b l:Int):List TV:=fl++ [.val (.int .i64 b),.val (.int .i64 l)]
def uO (w:Int)(L:Bs)(c g:Int):VO:=.cells [.val (.int .i64 20),.val (.int .i64 100),.val (.int .i64 w),.vec 7 L .none,.val (.int .i64 c),.val (.int .i64 g)]
def z6:List Nat:= [3,4,10,11,12]
def vU (L:Bs)(r j:Int):List TV:= [.ptr 1 0,.val (.int .i64 r),.vec 7 L .none,.val (.int .i64 L.length),.val (.int .i64 j)]
def LO (w c g:Int)(L:Bs)(fl:List TV)(r:Int)(hit:Bool)(c0:Code):Nat→Option (bH × Code):=dk [(0,ig 23 z6 [] (vU L 0 0) ⟨[uO w L c g,.cells fl],[]⟩ λK=>bif hit then (∀cs,K .ret (ay 23 z6 (vU L r r)) ⟨[uO w L c g,.cells fl,.cells cs],[]⟩ []) else K .normal (ay 23 z6 (vU L 0 L.length)) ⟨[uO w L c g,.cells fl],[]⟩ [],c0)]
def F3 (L:Bs)(fl:List TV)(r:Int):ba:=λro ys T K=>match ys,T.objs[0]? with
 |[.ptr 0 0,.agg fl'],some (VO.cells [.val (.int .i64 20),.val (.int .i64 100),.val (.int .i64 _),.vec 7 L' .none,.val (.int .i64 _),.val (.int .i64 _)])=>(ro=0∧fl'=fl∧L'=L)∧K (.val (.int .i64 r)) T
 |_,_=>aG 87 default ys
def F4 (L:Bs)(L1:Int→Bs)(ok:Int→Prop):ba:=λro ys T K=>match ys,T.objs[0]? with
 |[.ptr 0 0,.val (.int .i64 i)],some (VO.cells [.val (.int .i64 20),.val (.int .i64 100),.val (.int .i64 w),.vec 7 L' .none,.val (.int .i64 c),.val (.int .i64 g)])=>(ro=0∧L'=L∧ok i)∧K (.tup []) {T with objs:=T.objs.set 0 (uO w (L1 i) c g)}
 |_,_=>aG 86 default ys
theorem KT (n:Int)(L:Bs)(i r:Int)(hit:Bool)(Q:TV→VT→Prop):aH prog ae cT bx 300 (LM n L i r hit (ax prog lr 0)) 0 lr [.ptr 0 0,.val (.int .i64 i)] (b8 n L []) Q=
 ((ax prog lr (0:Nat)=ax prog lr (0:Nat))∧
 (((@Eq (Option Nat) .none .none)∧
 ((@Eq (Nat) 0 0)∧
 ((@Eq (List Nat) [] [])∧
 (True  ∧
 ((@Eq (VT) ⟨[(.cells [(.val (.int .i64 (n))),(.vec 5 (L) .none)])],[]⟩ ⟨[(.cells [(.val (.int .i64 (n))),(.vec 5 (L) .none)])],[]⟩)∧
 ((@Eq (Bool) true true)∧
 (@Eq (List TV) [(.val (.int .i64 (i))),(.val (.int .i64 0)),(.vec 5 (L) .none),(.val (.int .i64 ((↑(length L):Int)))),(.val (.int .i64 0))] [(.val (.int .i64 (i))),(.val (.int .i64 0)),(.vec 5 (L) .none),(.val (.int .i64 ((↑(length L):Int)))),(.val (.int .i64 0))])))))))∧
 (bif hit
 then (∀cs:List TV,Q (.val (.int .i64 (r))) ⟨[(.cells [(.val (.int .i64 (n))),(.vec 5 (L) .none)]),(.cells (cs))],[]⟩)
 else Q (.val (.int .i64 (-1))) ⟨[(.cells [(.val (.int .i64 (n))),(.vec 5 (L) .none)])],[]⟩))):=by kernel_rfl
theorem Dl (n:Int)(L:Bs)(i r i' a c:Int)(u d:Bool)(j:Nat)(Q:Exit→List TV→VT→List Nat→Nat→Prop):vx prog ae cT (bp [(999998,.dead,none),(15,.elt (eH i' a c u d),none)]) 300 bo none 0 (dj prog lr 0) (ay 24 zY (vT L i r j)) (b8 n L []) [] (dm zY Q)=
 (bif decide ((↑j:Int)<(↑(length L):Int))
 then (aJ prog (λ_=>.none) (.indexAddr 130 (.tmp 10) (.tmp 12)) [(10,(.vec 5 (L) .none)),(12,(.val (.int .i64 ((↑j:Int)))))] (.elt [(.val (.int .i64 (i'))),(.val (.int .u32 (a))),(.val (.int .i64 (c))),(.val (.bool (u))),(.val (.bool (d)))])∧
 (bif bN eql (am (Value.int i64 i') (Value.int i64 i))
 then Q .ret [(.val (.int .i64 (i))),(.val (.int .i64 ((↑j:Int)))),(.vec 5 (L) .none),(.val (.int .i64 ((↑(length L):Int)))),(.val (.int .i64 ((↑j:Int))))] ⟨[(.cells [(.val (.int .i64 (n))),(.vec 5 (L) .none)]),(.cells [(.val (.int .i64 (i'))),(.val (.int .u32 (a))),(.val (.int .i64 (c))),(.val (.bool (u))),(.val (.bool (d)))])],[]⟩ [] 24
 else Q .normal [(.val (.int .i64 (i))),(.val (.int .i64 (r))),(.vec 5 (L) .none),(.val (.int .i64 ((↑(length L):Int)))),(.val (.int .i64 (wrap i64 ((↑j:Int)+(1:Int)))))] ⟨[(.cells [(.val (.int .i64 (n))),(.vec 5 (L) .none)]),(.cells [(.val (.int .i64 (i'))),(.val (.int .u32 (a))),(.val (.int .i64 (c))),(.val (.bool (u))),(.val (.bool (d)))])],[]⟩ [] 24))
 else Q (.exit 0) [(.val (.int .i64 (i))),(.val (.int .i64 (r))),(.vec 5 (L) .none),(.val (.int .i64 ((↑(length L):Int)))),(.val (.int .i64 ((↑j:Int))))] ⟨[(.cells [(.val (.int .i64 (n))),(.vec 5 (L) .none)])],[]⟩ [] 24):=by kernel_rfl
theorem F5 (n:Int)(L:Bs)(i r i' a c:Int)(u d:Bool)(Q:TV→VT→Prop):aH prog ae (az [(lr,yy n L i r)]) (bp [(999998,.dead,none),(17,.elt (eH i' a c u d),none)]) 300 bo 0 yv [.ptr 0 0,.val (.int .i64 i)] (b8 n L []) Q=
 (((@Eq (Nat) 0 0)∧
 ((@Eq (List TV) [(.ptr 0 0),(.val (.int .i64 (i)))] [(.ptr 0 0),(.val (.int .i64 (i)))])∧
 (@Eq (Option VO) (.some (.cells [(.val (.int .i64 (n))),(.vec 5 (L) .none)])) (.some (.cells [(.val (.int .i64 (n))),(.vec 5 (L) .none)])))))∧
 (bif decide (r<(0:Int))
 then Q (.agg [(.val (.int .i64 0)),(.val (.int .u32 0)),(.val (.int .i64 0)),(.val (.bool false)),(.val (.bool false))]) ⟨[(.cells [(.val (.int .i64 (n))),(.vec 5 (L) .none)]),(.cells [(.val (.int .i64 0)),(.val (.int .u32 0)),(.val (.int .i64 0)),(.val (.bool false)),(.val (.bool false))])],[]⟩
 else (aJ prog (λ_=>.none) (.indexAddr 130 (.tmp 15) (.tmp 16)) [(15,(.vec 5 (L) .none)),(16,(.val (.int .i64 (r))))] (.elt [(.val (.int .i64 (i'))),(.val (.int .u32 (a))),(.val (.int .i64 (c))),(.val (.bool (u))),(.val (.bool (d)))])∧
 Q (.agg [(.val (.int .i64 (i'))),(.val (.int .u32 (a))),(.val (.int .i64 (c))),(.val (.bool (u))),(.val (.bool (d)))]) ⟨[(.cells [(.val (.int .i64 (n))),(.vec 5 (L) .none)]),(.cells [(.val (.int .i64 (i'))),(.val (.int .u32 (a))),(.val (.int .i64 (c))),(.val (.bool (u))),(.val (.bool (d)))])],[]⟩))):=by kernel_rfl
theorem F6 (n:Int)(L:Bs)(i w r a':Int)(u d:Bool)(k:Nat)(Q:TV→VT→Prop):aH prog ae (az [(lr,yy n L i r)]) (bp [(999998,.dead,none),(999999,.dead,none),(23,.row 5 1 0 L.length,some λT=>T.newRow L.flatten),(37,.ptr 1 (k*5),none),(40,.val (.int .u32 a'),none),(46,.ptr 1 (k*5),none),(500046,.val undef,some λT=>{T with objs:=T.objs.set 1 (.row (aV L.flatten (k*5) (eH i a' w u d)))})]) 300 bo 0 yw [.ptr 0 0,.val (.int .i64 i),.val (.bool u),.val (.bool d),.val (.int .i64 w)] (b8 n L []) Q=
 (((@Eq (Nat) 0 0)∧
 ((@Eq (List TV) [(.ptr 0 0),(.val (.int .i64 (i)))] [(.ptr 0 0),(.val (.int .i64 (i)))])∧
 (@Eq (Option VO) (.some (.cells [(.val (.int .i64 (n))),(.vec 5 (L) .none)])) (.some (.cells [(.val (.int .i64 (n))),(.vec 5 (L) .none)])))))∧
 (bif decide (r<(0:Int))
 then Q (.val (.int .i64 7)) ⟨[(.cells [(.val (.int .i64 (n))),(.vec 5 (L) .none)])],[]⟩
 else (aM prog (λ_=>.none) 0 ⟨[(.cells [(.val (.int .i64 (n))),(.vec 5 (L) .none)])],[]⟩ (.call ⟨(.builtin .append),#[(.tmp 18),(.tmp 22)],#[130,130]⟩) [(18,(.vec 5 [] .full)),(22,(.vec 5 (L) .none))] (.row 5 1 0 (length L)) ⟨[(.cells [(.val (.int .i64 (n))),(.vec 5 (L) .none)]),(.row (flatten L))],[]⟩∧
 (aJ prog (λ_=>.none) (.indexAddr 130 (.tmp 35) (.tmp 36)) [(35,(.row 5 1 0 (length L))),(36,(.val (.int .i64 (r))))] (.ptr 1 (k*(5:Nat)))∧
 (cm prog (λ_=>.none) ⟨[(.cells [(.val (.int .i64 (n))),(.row 5 1 0 (length L))]),(.row (flatten L))],[]⟩ false (.load 29 (.tmp 39)) [(39,(.ptr 1 (k*(5:Nat)+
   Field.offset
    #[{name:= "B",type:=(56:Nat),offset:=(0:Nat),embedded:=false,tag:= "",pkgPath:= "",byteOffset:=(0:Nat)},{name:= "Up",type:=(4:Nat),offset:=(3:Nat),embedded:=false,tag:= "",pkgPath:= "",byteOffset:=(24:Nat)},
      {name:= "Drain",type:=(4:Nat),offset:=(4:Nat),embedded:=false,tag:= "",pkgPath:= "",byteOffset:=(25:Nat)}][(0:Nat)]+
  Field.offset
   #[{name:= "Id",type:=(3:Nat),offset:=(0:Nat),embedded:=false,tag:= "",pkgPath:= "",byteOffset:=(0:Nat)},{name:= "Addr",type:=(29:Nat),offset:=(1:Nat),embedded:=false,tag:= "",pkgPath:= "",byteOffset:=(8:Nat)},
     {name:= "Weight",type:=(3:Nat),offset:=(2:Nat),embedded:=false,tag:= "",pkgPath:= "",byteOffset:=(16:Nat)}][(1:Nat)])))] (.val (.int .u32 (a')))∧
 (aJ prog (λ_=>.none) (.indexAddr 130 (.tmp 29) (.tmp 30)) [(29,(.row 5 1 0 (length L))),(30,(.val (.int .i64 (r))))] (.ptr 1 (k*(5:Nat)))∧
 (aM prog (λ_=>.none) 0 ⟨[(.cells [(.val (.int .i64 (n))),(.row 5 1 0 (length L))]),(.row (flatten L))],[]⟩ (.store 135 (.tmp 46) (.tmp 45)) [(46,(.ptr 1 (k*(5:Nat)))),(45,(.agg [(.val (.int .i64 (i))),(.val (.int .u32 (a'))),(.val (.int .i64 (w))),(.val (.bool (u))),(.val (.bool (d)))]))] (.val (.tuple #[])) ⟨[(.cells [(.val (.int .i64 (n))),(.row 5 1 0 (length L))]),(.row (aV (flatten L) (k*(5:Nat)) (eH i a' w u d)))],[]⟩∧
 Q (.val (.int .i64 0)) ⟨[(.cells [(.val (.int .i64 (n))),(.row 5 1 0 (length L))]),(.row (aV (flatten L) (k*(5:Nat)) (eH i a' w u d)))],[]⟩))))))):=by kernel_rfl
theorem KU (n:Int)(L:Bs)(i i' a c:Int)(q u d:Bool)(Is:Bs→Prop)(Q:TV→VT→Prop):aH prog ae (az [(yv,Di n L i (eH i' a c u d)),(yw,Dj n L i c q d Is)]) bx 300 bo 0 Dg [.ptr 0 0,.val (.int .i64 i),.val (.bool q)] (b8 n L []) Q=
 (((@Eq (Nat) 0 0)∧
 ((@Eq (List TV) [(.ptr 0 0),(.val (.int .i64 (i)))] [(.ptr 0 0),(.val (.int .i64 (i)))])∧
 (@Eq (Option VO) (.some (.cells [(.val (.int .i64 (n))),(.vec 5 (L) .none)])) (.some (.cells [(.val (.int .i64 (n))),(.vec 5 (L) .none)])))))∧
 (((@Eq (Nat) 0 0)∧
 ((@Eq (List TV) [(.ptr 0 0),(.val (.int .i64 (i))),(.val (.bool (q))),(.val (.bool (d))),(.val (.int .i64 (c)))] [(.ptr 0 0),(.val (.int .i64 (i))),(.val (.bool (q))),(.val (.bool (d))),(.val (.int .i64 (c)))])∧
 (@Eq (Option VO) (.some (.cells [(.val (.int .i64 (n))),(.vec 5 (L) .none)])) (.some (.cells [(.val (.int .i64 (n))),(.vec 5 (L) .none)])))))∧
 (∀e:Int,(∀L':Bs,(Is (L')→Q (.val (.int .i64 (e))) ⟨[(.cells [(.val (.int .i64 (n))),(.vec 5 (L') .none)]),(.cells [(.val (.int .i64 (i'))),(.val (.int .u32 (a))),(.val (.int .i64 (c))),(.val (.bool (u))),(.val (.bool (d)))])],[]⟩))))):=by kernel_rfl
theorem KV (n:Int)(L:Bs)(i i' a c:Int)(q u d:Bool)(Is:Bs→Prop)(Q:TV→VT→Prop):aH prog ae (az [(yv,Di n L i (eH i' a c u d)),(yw,Dj n L i c u q Is)]) bx 300 bo 0 Dh [.ptr 0 0,.val (.int .i64 i),.val (.bool q)] (b8 n L []) Q=
 (((@Eq (Nat) 0 0)∧
 ((@Eq (List TV) [(.ptr 0 0),(.val (.int .i64 (i)))] [(.ptr 0 0),(.val (.int .i64 (i)))])∧
 (@Eq (Option VO) (.some (.cells [(.val (.int .i64 (n))),(.vec 5 (L) .none)])) (.some (.cells [(.val (.int .i64 (n))),(.vec 5 (L) .none)])))))∧
 (((@Eq (Nat) 0 0)∧
 ((@Eq (List TV) [(.ptr 0 0),(.val (.int .i64 (i))),(.val (.bool (u))),(.val (.bool (q))),(.val (.int .i64 (c)))] [(.ptr 0 0),(.val (.int .i64 (i))),(.val (.bool (u))),(.val (.bool (q))),(.val (.int .i64 (c)))])∧
 (@Eq (Option VO) (.some (.cells [(.val (.int .i64 (n))),(.vec 5 (L) .none)])) (.some (.cells [(.val (.int .i64 (n))),(.vec 5 (L) .none)])))))∧
 (∀e:Int,(∀L':Bs,(Is (L')→Q (.val (.int .i64 (e))) ⟨[(.cells [(.val (.int .i64 (n))),(.vec 5 (L') .none)]),(.cells [(.val (.int .i64 (i'))),(.val (.int .u32 (a))),(.val (.int .i64 (c))),(.val (.bool (u))),(.val (.bool (d)))])],[]⟩))))):=by kernel_rfl
theorem KW (n:Int)(L:Bs)(i a c r:Int)(k:Nat)(Q:TV→VT→Prop):aH prog ae (az [(lr,yy n L i r)]) (bp [(999998,.dead,none),(73,.vec 5 (L.take k) .none,none),(84,.vec 5 (L.drop k) .none,none),(74,.vec 5 (L.take k) (.tail 0 (L.take k).length),some λT=>yz 5 T (L.take k).length),(78,.vec 5 (L.take k++ [eH i a c false false]) (.tail 0 ((L.take k).length+1)),some λT=>yz 5 T ((L.take k).length+1)),(85,.vec 5 (L.take k++ [eH i a c false false]++L.drop k) (.tail 0 ((L.take k).length+1+(L.drop k).length)),some λT=>yz 5 T ((L.take k).length+1+(L.drop k).length))]) 300 (LN n L i a c k (ax prog pC 1)) 0 pC [.ptr 0 0,.agg (gA i a c)] (b8 n L []) Q=
 (bif decide (i<(0:Int))
 then Q (.val (.int .i64 2)) ⟨[(.cells [(.val (.int .i64 (n))),(.vec 5 (L) .none)]),(.cells [(.val (.int .i64 (i))),(.val (.int .u32 (a))),(.val (.int .i64 (c)))])],[]⟩
 else (bif decide (i>(255:Int))
 then Q (.val (.int .i64 2)) ⟨[(.cells [(.val (.int .i64 (n))),(.vec 5 (L) .none)]),(.cells [(.val (.int .i64 (i))),(.val (.int .u32 (a))),(.val (.int .i64 (c)))])],[]⟩
 else (bif bN eql (am (Value.int u32 a) (Value.int u32 (0:Int)))
 then Q (.val (.int .i64 2)) ⟨[(.cells [(.val (.int .i64 (n))),(.vec 5 (L) .none)]),(.cells [(.val (.int .i64 (i))),(.val (.int .u32 (a))),(.val (.int .i64 (c)))])],[]⟩
 else (bif decide (c<(0:Int))
 then Q (.val (.int .i64 2)) ⟨[(.cells [(.val (.int .i64 (n))),(.vec 5 (L) .none)]),(.cells [(.val (.int .i64 (i))),(.val (.int .u32 (a))),(.val (.int .i64 (c)))])],[]⟩
 else (bif decide (c>(100:Int))
 then Q (.val (.int .i64 2)) ⟨[(.cells [(.val (.int .i64 (n))),(.vec 5 (L) .none)]),(.cells [(.val (.int .i64 (i))),(.val (.int .u32 (a))),(.val (.int .i64 (c)))])],[]⟩
 else (((@Eq (Nat) 0 0)∧
 ((@Eq (List TV) [(.ptr 0 0),(.val (.int .i64 (i)))] [(.ptr 0 0),(.val (.int .i64 (i)))])∧
 (@Eq (Option VO) (.some (.cells [(.val (.int .i64 (n))),(.vec 5 (L) .none)])) (.some (.cells [(.val (.int .i64 (n))),(.vec 5 (L) .none)])))))∧
 (bif decide (r≥(0:Int))
 then Q (.val (.int .i64 13)) ⟨[(.cells [(.val (.int .i64 (n))),(.vec 5 (L) .none)]),(.cells [(.val (.int .i64 (i))),(.val (.int .u32 (a))),(.val (.int .i64 (c)))])],[]⟩
 else (bif decide ((↑(length L):Int)≥(16:Int))
 then Q (.val (.int .i64 6)) ⟨[(.cells [(.val (.int .i64 (n))),(.vec 5 (L) .none)]),(.cells [(.val (.int .i64 (i))),(.val (.int .u32 (a))),(.val (.int .i64 (c)))])],[]⟩
 else ((ax prog pC (1:Nat)=ax prog pC (1:Nat))∧
 (((@Eq (Option Nat) .none .none)∧
 ((@Eq (Nat) 0 0)∧
 ((@Eq (List Nat) [] [])∧
 (True  ∧
 ((@Eq (VT) ⟨[(.cells [(.val (.int .i64 (n))),(.vec 5 (L) .none)]),(.cells [(.val (.int .i64 (i))),(.val (.int .u32 (a))),(.val (.int .i64 (c)))])],[]⟩ ⟨[(.cells [(.val (.int .i64 (n))),(.vec 5 (L) .none)]),(.cells [(.val (.int .i64 (i))),(.val (.int .u32 (a))),(.val (.int .i64 (c)))])],[]⟩)∧
 ((@Eq (Bool) true true)∧
 (@Eq (List TV) [(.ptr 0 0),(.ptr 1 0),(.val (.int .i64 0))] [(.ptr 0 0),(.ptr 1 0),(.val (.int .i64 0))])))))))∧
 (aJ prog (λ_=>.none) (.slice 130 (.tmp 71) .none (.some (.tmp 72)) .none) [(71,(.vec 5 (L) .none)),(72,(.val (.int .i64 ((↑k:Int)))))] (.vec 5 (List.take k L) .none)∧
 (aJ prog (λ_=>.none) (.slice 130 (.tmp 82) (.some (.tmp 83)) .none .none) [(82,(.vec 5 (L) .none)),(83,(.val (.int .i64 ((↑k:Int)))))] (.vec 5 (drop k L) .none)∧
 (aM prog (λ_=>.none) 0 ⟨[(.cells [(.val (.int .i64 (n))),(.vec 5 (L) .none)]),(.cells [(.val (.int .i64 (i))),(.val (.int .u32 (a))),(.val (.int .i64 (c)))])],[]⟩ (.call ⟨(.builtin .append),#[(.tmp 67),(.tmp 73)],#[130,130]⟩) [(67,(.vec 5 [] .full)),(73,(.vec 5 (List.take k L) .none))] (.vec 5 (List.take k L) (.tail 0 (length (List.take k L)))) ⟨[(.cells [(.val (.int .i64 (n))),(.vec 5 (L) .none)]),(.cells [(.val (.int .i64 (i))),(.val (.int .u32 (a))),(.val (.int .i64 (c)))])],[((length (List.take k L)),(5,false))]⟩∧
 (((@Eq (Option TV) (.some (.vec 5 (L) .none)) (.some (.vec 5 (L) .none)))∧
 ((@Eq (Option TV) (.some (.agg [(.val (.int .i64 (i))),(.val (.int .u32 (a))),(.val (.int .i64 (c)))])) (.some (.agg [(.val (.int .i64 (i))),(.val (.int .u32 (a))),(.val (.int .i64 (c)))])))∧
 ((@Eq (Option TV) (.some (.vec 5 (L) .none)) (.some (.vec 5 (L) .none)))∧
 True)))∧
 (aM prog (λ_=>.none) 0 ⟨[(.cells [(.val (.int .i64 (n))),(.vec 5 (L) .none)]),(.cells [(.val (.int .i64 (i))),(.val (.int .u32 (a))),(.val (.int .i64 (c)))])],[((length (List.take k L)),(5,false))]⟩ (.call ⟨(.builtin .append),#[(.tmp 74),(.tmp 77)],#[130,130]⟩) [(74,(.vec 5 (List.take k L) (.tail 0 (length (List.take k L))))),(77,(.vec 5 [[(.val (.int .i64 (i))),(.val (.int .u32 (a))),(.val (.int .i64 (c))),(.val (.bool false)),(.val (.bool false))]] .full))] (.vec 5 (List.take k L++ [eH i a c false false]) (.tail 0 (length (List.take k L)+(1:Nat)))) ⟨[(.cells [(.val (.int .i64 (n))),(.vec 5 (L) .none)]),(.cells [(.val (.int .i64 (i))),(.val (.int .u32 (a))),(.val (.int .i64 (c)))])],[((length (List.take k L)+(1:Nat)),(5,false))]⟩∧
 (((@Eq (Option TV) (.some (.vec 5 (L) .none)) (.some (.vec 5 (L) .none)))∧
 ((@Eq (Option TV) (.some (.agg [(.val (.int .i64 (i))),(.val (.int .u32 (a))),(.val (.int .i64 (c)))])) (.some (.agg [(.val (.int .i64 (i))),(.val (.int .u32 (a))),(.val (.int .i64 (c)))])))∧
 ((@Eq (Option TV) (.some (.vec 5 (L) .none)) (.some (.vec 5 (L) .none)))∧
 True)))∧
 (aM prog (λ_=>.none) 0 ⟨[(.cells [(.val (.int .i64 (n))),(.vec 5 (L) .none)]),(.cells [(.val (.int .i64 (i))),(.val (.int .u32 (a))),(.val (.int .i64 (c)))])],[((length (List.take k L)+(1:Nat)),(5,false))]⟩ (.call ⟨(.builtin .append),#[(.tmp 78),(.tmp 84)],#[130,130]⟩) [(78,(.vec 5 (List.take k L++ [eH i a c false false]) (.tail 0 (length (List.take k L)+(1:Nat))))),(84,(.vec 5 (drop k L) .none))] (.vec 5 (List.take k L++ [eH i a c false false]++drop k L) (.tail 0 (length (List.take k L)+(1:Nat)+length (drop k L)))) ⟨[(.cells [(.val (.int .i64 (n))),(.vec 5 (L) .none)]),(.cells [(.val (.int .i64 (i))),(.val (.int .u32 (a))),(.val (.int .i64 (c)))])],[((length (List.take k L)+(1:Nat)+length (drop k L)),(5,false))]⟩∧
 Q (.val (.int .i64 0)) ⟨[(.cells [(.val (.int .i64 (n))),(.vec 5 (List.take k L++ [eH i a c false false]++drop k L) (.tail 0 (length (List.take k L)+(1:Nat)+length (drop k L))))]),(.cells [(.val (.int .i64 (i))),(.val (.int .u32 (a))),(.val (.int .i64 (c)))])],[((length (List.take k L)+(1:Nat)+length (drop k L)),(5,false))]⟩))))))))))))))))):=by kernel_rfl
theorem Dm (n:Int)(L:Bs)(i a c i' a' c':Int)(u d:Bool)(j:Nat)(Q:Exit→List TV→VT→List Nat→Nat→Prop):vx prog ae cT (bp [(999998,.dead,none),(56,.elt (eH i' a' c' u d),none)]) 300 bo none 0 (dj prog pC 1) (ay 88 Dk (zZ j)) (b8 n L [.cells (gA i a c)]) [] (dm Dk Q)=
 (bif decide ((↑j:Int)<(↑(length L):Int))
 then (aJ prog (λ_=>.none) (.indexAddr 130 (.tmp 54) (.tmp 55)) [(54,(.vec 5 (L) .none)),(55,(.val (.int .i64 ((↑j:Int)))))] (.elt [(.val (.int .i64 (i'))),(.val (.int .u32 (a'))),(.val (.int .i64 (c'))),(.val (.bool (u))),(.val (.bool (d)))])∧
 (bif decide (i' <i)
 then Q .normal [(.ptr 0 0),(.ptr 1 0),(.val (.int .i64 (wrap i64 ((↑j:Int)+(1:Int)))))] ⟨[(.cells [(.val (.int .i64 (n))),(.vec 5 (L) .none)]),(.cells [(.val (.int .i64 (i))),(.val (.int .u32 (a))),(.val (.int .i64 (c)))])],[]⟩ [] 88
 else Q (.exit 1) [(.ptr 0 0),(.ptr 1 0),(.val (.int .i64 ((↑j:Int))))] ⟨[(.cells [(.val (.int .i64 (n))),(.vec 5 (L) .none)]),(.cells [(.val (.int .i64 (i))),(.val (.int .u32 (a))),(.val (.int .i64 (c)))])],[]⟩ [] 88))
 else Q (.exit 1) [(.ptr 0 0),(.ptr 1 0),(.val (.int .i64 ((↑j:Int))))] ⟨[(.cells [(.val (.int .i64 (n))),(.vec 5 (L) .none)]),(.cells [(.val (.int .i64 (i))),(.val (.int .u32 (a))),(.val (.int .i64 (c)))])],[]⟩ [] 88):=by kernel_rfl
theorem KY (w c g:Int)(L:Bs)(p s d sp dp r:Int)(hit:Bool)(Q:TV→VT→Prop):aH prog ae cT bx 300 (LO w c g L (bQ p s d sp dp) r hit (ax prog ri 0)) 0 ri [.ptr 0 0,.agg (bQ p s d sp dp)] ⟨[uO w L c g],[]⟩ Q=
 ((ax prog ri (0:Nat)=ax prog ri (0:Nat))∧
 (((@Eq (Option Nat) .none .none)∧
 ((@Eq (Nat) 0 0)∧
 ((@Eq (List Nat) [] [])∧
 (True  ∧
 ((@Eq (VT) ⟨[(.cells [(.val (.int .i64 20)),(.val (.int .i64 100)),(.val (.int .i64 (w))),(.vec 7 (L) .none),(.val (.int .i64 (c))),(.val (.int .i64 (g)))]),(.cells [(.val (.int .i64 (p))),(.val (.int .u32 (s))),(.val (.int .u32 (d))),(.val (.int .i64 (sp))),(.val (.int .i64 (dp)))])],[]⟩ ⟨[(.cells [(.val (.int .i64 20)),(.val (.int .i64 100)),(.val (.int .i64 (w))),(.vec 7 (L) .none),(.val (.int .i64 (c))),(.val (.int .i64 (g)))]),(.cells [(.val (.int .i64 (p))),(.val (.int .u32 (s))),(.val (.int .u32 (d))),(.val (.int .i64 (sp))),(.val (.int .i64 (dp)))])],[]⟩)∧
 ((@Eq (Bool) true true)∧
 (@Eq (List TV) [(.ptr 1 0),(.val (.int .i64 0)),(.vec 7 (L) .none),(.val (.int .i64 ((↑(length L):Int)))),(.val (.int .i64 0))] [(.ptr 1 0),(.val (.int .i64 0)),(.vec 7 (L) .none),(.val (.int .i64 ((↑(length L):Int)))),(.val (.int .i64 0))])))))))∧
 (bif hit
 then (∀cs:List TV,Q (.val (.int .i64 (r))) ⟨[(.cells [(.val (.int .i64 20)),(.val (.int .i64 100)),(.val (.int .i64 (w))),(.vec 7 (L) .none),(.val (.int .i64 (c))),(.val (.int .i64 (g)))]),(.cells [(.val (.int .i64 (p))),(.val (.int .u32 (s))),(.val (.int .u32 (d))),(.val (.int .i64 (sp))),(.val (.int .i64 (dp)))]),(.cells (cs))],[]⟩)
 else Q (.val (.int .i64 (-1))) ⟨[(.cells [(.val (.int .i64 20)),(.val (.int .i64 100)),(.val (.int .i64 (w))),(.vec 7 (L) .none),(.val (.int .i64 (c))),(.val (.int .i64 (g)))]),(.cells [(.val (.int .i64 (p))),(.val (.int .u32 (s))),(.val (.int .u32 (d))),(.val (.int .i64 (sp))),(.val (.int .i64 (dp)))])],[]⟩))):=by kernel_rfl
theorem Dn (w c g:Int)(L:Bs)(p s d sp dp r p' s' d' sp' dp' b l:Int)(j:Nat)(Q:Exit→List TV→VT→List Nat→Nat→Prop):vx prog ae cT (bp [(999998,.dead,none),(15,.elt (i5 (bQ p' s' d' sp' dp') b l),none)]) 300 bo none 0 (dj prog ri 0) (ay 23 z6 (vU L r j)) ⟨[uO w L c g,.cells (bQ p s d sp dp)],[]⟩ [] (dm z6 Q)=
 (bif decide ((↑j:Int)<(↑(length L):Int))
 then (aJ prog (λ_=>.none) (.indexAddr 127 (.tmp 10) (.tmp 12)) [(10,(.vec 7 (L) .none)),(12,(.val (.int .i64 ((↑j:Int)))))] (.elt [(.val (.int .i64 (p'))),(.val (.int .u32 (s'))),(.val (.int .u32 (d'))),(.val (.int .i64 (sp'))),(.val (.int .i64 (dp'))),(.val (.int .i64 (b))),(.val (.int .i64 (l)))])∧
 (bif bN eql
  (am ((λvs=>Value.agg (toArray vs)) ((λx=>Value.int i64 p'::x) ((λx=>Value.int u32 s'::x) ((λx=>Value.int u32 d'::x) ((λx=>Value.int i64 sp'::x) ((λx=>Value.int i64 dp'::x) []))))))
    ((λvs=>Value.agg (toArray vs)) ((λx=>Value.int i64 p::x) ((λx=>Value.int u32 s::x) ((λx=>Value.int u32 d::x) ((λx=>Value.int i64 sp::x) ((λx=>Value.int i64 dp::x) [])))))))
 then Q .ret [(.ptr 1 0),(.val (.int .i64 ((↑j:Int)))),(.vec 7 (L) .none),(.val (.int .i64 ((↑(length L):Int)))),(.val (.int .i64 ((↑j:Int))))] ⟨[(.cells [(.val (.int .i64 20)),(.val (.int .i64 100)),(.val (.int .i64 (w))),(.vec 7 (L) .none),(.val (.int .i64 (c))),(.val (.int .i64 (g)))]),(.cells [(.val (.int .i64 (p))),(.val (.int .u32 (s))),(.val (.int .u32 (d))),(.val (.int .i64 (sp))),(.val (.int .i64 (dp)))]),(.cells [(.val (.int .i64 (p'))),(.val (.int .u32 (s'))),(.val (.int .u32 (d'))),(.val (.int .i64 (sp'))),(.val (.int .i64 (dp'))),(.val (.int .i64 (b))),(.val (.int .i64 (l)))])],[]⟩ [] 23
 else Q .normal [(.ptr 1 0),(.val (.int .i64 (r))),(.vec 7 (L) .none),(.val (.int .i64 ((↑(length L):Int)))),(.val (.int .i64 (wrap i64 ((↑j:Int)+(1:Int)))))] ⟨[(.cells [(.val (.int .i64 20)),(.val (.int .i64 100)),(.val (.int .i64 (w))),(.vec 7 (L) .none),(.val (.int .i64 (c))),(.val (.int .i64 (g)))]),(.cells [(.val (.int .i64 (p))),(.val (.int .u32 (s))),(.val (.int .u32 (d))),(.val (.int .i64 (sp))),(.val (.int .i64 (dp)))]),(.cells [(.val (.int .i64 (p'))),(.val (.int .u32 (s'))),(.val (.int .u32 (d'))),(.val (.int .i64 (sp'))),(.val (.int .i64 (dp'))),(.val (.int .i64 (b))),(.val (.int .i64 (l)))])],[]⟩ [] 23))
 else Q (.exit 0) [(.ptr 1 0),(.val (.int .i64 (r))),(.vec 7 (L) .none),(.val (.int .i64 ((↑(length L):Int)))),(.val (.int .i64 ((↑j:Int))))] ⟨[(.cells [(.val (.int .i64 20)),(.val (.int .i64 100)),(.val (.int .i64 (w))),(.vec 7 (L) .none),(.val (.int .i64 (c))),(.val (.int .i64 (g)))]),(.cells [(.val (.int .i64 (p))),(.val (.int .u32 (s))),(.val (.int .u32 (d))),(.val (.int .i64 (sp))),(.val (.int .i64 (dp)))])],[]⟩ [] 23):=by kernel_rfl
theorem KZ (w c g:Int)(L:Bs)(i:Int)(k:Nat)(Q:TV→VT→Prop):aH prog ae cT (bp [(999998,.dead,none),(11,.vec 7 (L.take k) .none,none),(19,.vec 7 (L.drop (k+1)) .none,none),(12,.vec 7 (L.take k) (.tail 0 (L.take k).length),some λT=>yz 7 T (L.take k).length),(20,.vec 7 (L.take k++L.drop (k+1)) (.tail 0 ((L.take k).length+(L.drop (k+1)).length)),some λT=>yz 7 T ((L.take k).length+(L.drop (k+1)).length))]) 300 bo 0 F2 [.ptr 0 0,.val (.int .i64 i)] ⟨[uO w L c g],[]⟩ Q=
 (aJ prog (λ_=>.none) (.slice 127 (.tmp 9) .none (.some (.tmp 10)) .none) [(9,(.vec 7 (L) .none)),(10,(.val (.int .i64 (i))))] (.vec 7 (List.take k L) .none)∧
 (aJ prog (λ_=>.none) (.slice 127 (.tmp 16) (.some (.tmp 18)) .none .none) [(16,(.vec 7 (L) .none)),(18,(.val (.int .i64 (wrap i64 (i+(1:Int))))))] (.vec 7 (drop (k+(1:Nat)) L) .none)∧
 (aM prog (λ_=>.none) 0 ⟨[(.cells [(.val (.int .i64 20)),(.val (.int .i64 100)),(.val (.int .i64 (w))),(.vec 7 (L) .none),(.val (.int .i64 (c))),(.val (.int .i64 (g)))])],[]⟩ (.call ⟨(.builtin .append),#[(.tmp 5),(.tmp 11)],#[127,127]⟩) [(5,(.vec 7 [] .full)),(11,(.vec 7 (List.take k L) .none))] (.vec 7 (List.take k L) (.tail 0 (length (List.take k L)))) ⟨[(.cells [(.val (.int .i64 20)),(.val (.int .i64 100)),(.val (.int .i64 (w))),(.vec 7 (L) .none),(.val (.int .i64 (c))),(.val (.int .i64 (g)))])],[((length (List.take k L)),(7,false))]⟩∧
 (((@Eq (Option TV) (.some (.vec 7 (L) .none)) (.some (.vec 7 (L) .none)))∧
 ((@Eq (Option TV) (.some (.vec 7 (L) .none)) (.some (.vec 7 (L) .none)))∧
 True))∧
 (aM prog (λ_=>.none) 0 ⟨[(.cells [(.val (.int .i64 20)),(.val (.int .i64 100)),(.val (.int .i64 (w))),(.vec 7 (L) .none),(.val (.int .i64 (c))),(.val (.int .i64 (g)))])],[((length (List.take k L)),(7,false))]⟩ (.call ⟨(.builtin .append),#[(.tmp 12),(.tmp 19)],#[127,127]⟩) [(12,(.vec 7 (List.take k L) (.tail 0 (length (List.take k L))))),(19,(.vec 7 (drop (k+(1:Nat)) L) .none))] (.vec 7 (List.take k L++drop (k+(1:Nat)) L) (.tail 0 (length (List.take k L)+length (drop (k+(1:Nat)) L)))) ⟨[(.cells [(.val (.int .i64 20)),(.val (.int .i64 100)),(.val (.int .i64 (w))),(.vec 7 (L) .none),(.val (.int .i64 (c))),(.val (.int .i64 (g)))])],[((length (List.take k L)+length (drop (k+(1:Nat)) L)),(7,false))]⟩∧
 Q (.tup []) ⟨[(.cells [(.val (.int .i64 20)),(.val (.int .i64 100)),(.val (.int .i64 (w))),(.vec 7 (List.take k L++drop (k+(1:Nat)) L) (.tail 0 (length (List.take k L)+length (drop (k+(1:Nat)) L)))),(.val (.int .i64 (c))),(.val (.int .i64 (g)))])],[((length (List.take k L)+length (drop (k+(1:Nat)) L)),(7,false))]⟩))))):=by kernel_rfl
theorem K0 (c g:Int)(L M:Bs)(L1:Int→Bs)(ok:Int→Prop)(p s d sp dp b r p' s' d' sp' dp' b' l':Int)(Q:TV→VT→Prop):aH prog ae (az [(ri,F3 L (bQ p s d sp dp) r),(F2,F4 L L1 ok)]) (bp [(999998,.dead,none),(45,.elt (i5 (bQ p' s' d' sp' dp') b' l'),none),(62,.vec 7 M (.tail 0 M.length),some λT=>yz 7 T M.length),(68,.vec 7 (M++ [i5 (bQ p s d sp dp) b 0]) (.tail 0 (M.length+1)),some λT=>yz 7 T (M.length+1))]) 300 bo 0 yx [.ptr 0 0,.agg (bQ p s d sp dp),.val (.int .i64 b),.val (.int .i64 0)] ⟨[uO 0 L c g],[]⟩ Q=
 (((@Eq (Nat) 0 0)∧
 ((@Eq (List TV) [(.val (.int .i64 (p))),(.val (.int .u32 (s))),(.val (.int .u32 (d))),(.val (.int .i64 (sp))),(.val (.int .i64 (dp)))] [(.val (.int .i64 (p))),(.val (.int .u32 (s))),(.val (.int .u32 (d))),(.val (.int .i64 (sp))),(.val (.int .i64 (dp)))])∧
 (@Eq (List (List TV)) (L) (L))))∧
 (bif decide (r≥(0:Int))
 then (((@Eq (Nat) 0 0)∧
 ((@Eq (List (List TV)) (L) (L))∧
 ok (r)))∧
 (aM prog (λ_=>.none) 0 ⟨[(.cells [(.val (.int .i64 20)),(.val (.int .i64 100)),(.val (.int .i64 0)),(.vec 7 (L1 r) .none),(.val (.int .i64 (c))),(.val (.int .i64 (g)))]),(.cells [(.val (.int .i64 (p))),(.val (.int .u32 (s))),(.val (.int .u32 (d))),(.val (.int .i64 (sp))),(.val (.int .i64 (dp)))]),(.cells [(.val (.int .i64 0)),(.val (.int .u32 0)),(.val (.int .u32 0)),(.val (.int .i64 0)),(.val (.int .i64 0)),(.val (.int .i64 0)),(.val (.int .i64 0))]),(.cells [(.val (.int .i64 0)),(.val (.int .u32 0)),(.val (.int .u32 0)),(.val (.int .i64 0)),(.val (.int .i64 0)),(.val (.int .i64 0)),(.val (.int .i64 0))])],[]⟩ (.call ⟨(.builtin .append),#[(.tmp 57),(.tmp 61)],#[127,127]⟩) [(57,(.vec 7 [] .full)),(61,(.vec 7 (L1 r) .none))] (.vec 7 (M) (.tail 0 (length M))) ⟨[(.cells [(.val (.int .i64 20)),(.val (.int .i64 100)),(.val (.int .i64 0)),(.vec 7 (L1 r) .none),(.val (.int .i64 (c))),(.val (.int .i64 (g)))]),(.cells [(.val (.int .i64 (p))),(.val (.int .u32 (s))),(.val (.int .u32 (d))),(.val (.int .i64 (sp))),(.val (.int .i64 (dp)))]),(.cells [(.val (.int .i64 0)),(.val (.int .u32 0)),(.val (.int .u32 0)),(.val (.int .i64 0)),(.val (.int .i64 0)),(.val (.int .i64 0)),(.val (.int .i64 0))]),(.cells [(.val (.int .i64 0)),(.val (.int .u32 0)),(.val (.int .u32 0)),(.val (.int .i64 0)),(.val (.int .i64 0)),(.val (.int .i64 0)),(.val (.int .i64 0))])],[((length M),(7,false))]⟩∧
 (((@Eq (Option TV) (.some (.agg [(.val (.int .i64 (p))),(.val (.int .u32 (s))),(.val (.int .u32 (d))),(.val (.int .i64 (sp))),(.val (.int .i64 (dp)))])) (.some (.agg [(.val (.int .i64 (p))),(.val (.int .u32 (s))),(.val (.int .u32 (d))),(.val (.int .i64 (sp))),(.val (.int .i64 (dp)))])))∧
 ((@Eq (Option TV) (.some (.vec 7 (L1 r) .none)) (.some (.vec 7 (L1 r) .none)))∧
 True))∧
 (aM prog (λ_=>.none) 0 ⟨[(.cells [(.val (.int .i64 20)),(.val (.int .i64 100)),(.val (.int .i64 0)),(.vec 7 (L1 r) .none),(.val (.int .i64 (c))),(.val (.int .i64 (g)))]),(.cells [(.val (.int .i64 (p))),(.val (.int .u32 (s))),(.val (.int .u32 (d))),(.val (.int .i64 (sp))),(.val (.int .i64 (dp)))]),(.cells [(.val (.int .i64 0)),(.val (.int .u32 0)),(.val (.int .u32 0)),(.val (.int .i64 0)),(.val (.int .i64 0)),(.val (.int .i64 0)),(.val (.int .i64 0))]),(.cells [(.val (.int .i64 0)),(.val (.int .u32 0)),(.val (.int .u32 0)),(.val (.int .i64 0)),(.val (.int .i64 0)),(.val (.int .i64 0)),(.val (.int .i64 0))])],[((length M),(7,false))]⟩ (.call ⟨(.builtin .append),#[(.tmp 62),(.tmp 67)],#[127,127]⟩) [(62,(.vec 7 (M) (.tail 0 (length M)))),(67,(.vec 7 [[(.val (.int .i64 (p))),(.val (.int .u32 (s))),(.val (.int .u32 (d))),(.val (.int .i64 (sp))),(.val (.int .i64 (dp))),(.val (.int .i64 (b))),(.val (.int .i64 0))]] .full))] (.vec 7 (M++ [i5 (bQ p s d sp dp) b (0:Int)]) (.tail 0 (length M+(1:Nat)))) ⟨[(.cells [(.val (.int .i64 20)),(.val (.int .i64 100)),(.val (.int .i64 0)),(.vec 7 (L1 r) .none),(.val (.int .i64 (c))),(.val (.int .i64 (g)))]),(.cells [(.val (.int .i64 (p))),(.val (.int .u32 (s))),(.val (.int .u32 (d))),(.val (.int .i64 (sp))),(.val (.int .i64 (dp)))]),(.cells [(.val (.int .i64 0)),(.val (.int .u32 0)),(.val (.int .u32 0)),(.val (.int .i64 0)),(.val (.int .i64 0)),(.val (.int .i64 0)),(.val (.int .i64 0))]),(.cells [(.val (.int .i64 0)),(.val (.int .u32 0)),(.val (.int .u32 0)),(.val (.int .i64 0)),(.val (.int .i64 0)),(.val (.int .i64 0)),(.val (.int .i64 0))])],[((length M+(1:Nat)),(7,false))]⟩∧
 Q (.tup [(.agg [(.val (.int .i64 0)),(.val (.int .u32 0)),(.val (.int .u32 0)),(.val (.int .i64 0)),(.val (.int .i64 0)),(.val (.int .i64 0)),(.val (.int .i64 0))]),(.val (.bool false))]) ⟨[(.cells [(.val (.int .i64 20)),(.val (.int .i64 100)),(.val (.int .i64 0)),(.vec 7 (M++ [i5 (bQ p s d sp dp) b (0:Int)]) (.tail 0 (length M+(1:Nat)))),(.val (.int .i64 (c))),(.val (.int .i64 (g)))]),(.cells [(.val (.int .i64 (p))),(.val (.int .u32 (s))),(.val (.int .u32 (d))),(.val (.int .i64 (sp))),(.val (.int .i64 (dp)))]),(.cells [(.val (.int .i64 0)),(.val (.int .u32 0)),(.val (.int .u32 0)),(.val (.int .i64 0)),(.val (.int .i64 0)),(.val (.int .i64 0)),(.val (.int .i64 0))]),(.cells [(.val (.int .i64 0)),(.val (.int .u32 0)),(.val (.int .u32 0)),(.val (.int .i64 0)),(.val (.int .i64 0)),(.val (.int .i64 0)),(.val (.int .i64 0))])],[((length M+(1:Nat)),(7,false))]⟩))))
 else (bif decide ((↑(length L):Int)≥(20:Int))
 then (aJ prog (λ_=>.none) (.indexAddr 127 (.tmp 44) (.const (.int .i64 0))) [(44,(.vec 7 (L) .none))] (.elt [(.val (.int .i64 (p'))),(.val (.int .u32 (s'))),(.val (.int .u32 (d'))),(.val (.int .i64 (sp'))),(.val (.int .i64 (dp'))),(.val (.int .i64 (b'))),(.val (.int .i64 (l')))])∧
 (((@Eq (Nat) 0 0)∧
 ((@Eq (List (List TV)) (L) (L))∧
 ok 0))∧
 (aM prog (λ_=>.none) 0 ⟨[(.cells [(.val (.int .i64 20)),(.val (.int .i64 100)),(.val (.int .i64 0)),(.vec 7 (L1 (0:Int)) .none),(.val (.int .i64 (wrap i64 (c+(1:Int))))),(.val (.int .i64 (wrap i64 (g+(1:Int)))))]),(.cells [(.val (.int .i64 (p))),(.val (.int .u32 (s))),(.val (.int .u32 (d))),(.val (.int .i64 (sp))),(.val (.int .i64 (dp)))]),(.cells [(.val (.int .i64 0)),(.val (.int .u32 0)),(.val (.int .u32 0)),(.val (.int .i64 0)),(.val (.int .i64 0)),(.val (.int .i64 0)),(.val (.int .i64 0))]),(.cells [(.val (.int .i64 (p'))),(.val (.int .u32 (s'))),(.val (.int .u32 (d'))),(.val (.int .i64 (sp'))),(.val (.int .i64 (dp'))),(.val (.int .i64 (b'))),(.val (.int .i64 (l')))])],[]⟩ (.call ⟨(.builtin .append),#[(.tmp 57),(.tmp 61)],#[127,127]⟩) [(57,(.vec 7 [] .full)),(61,(.vec 7 (L1 (0:Int)) .none))] (.vec 7 (M) (.tail 0 (length M))) ⟨[(.cells [(.val (.int .i64 20)),(.val (.int .i64 100)),(.val (.int .i64 0)),(.vec 7 (L1 (0:Int)) .none),(.val (.int .i64 (wrap i64 (c+(1:Int))))),(.val (.int .i64 (wrap i64 (g+(1:Int)))))]),(.cells [(.val (.int .i64 (p))),(.val (.int .u32 (s))),(.val (.int .u32 (d))),(.val (.int .i64 (sp))),(.val (.int .i64 (dp)))]),(.cells [(.val (.int .i64 0)),(.val (.int .u32 0)),(.val (.int .u32 0)),(.val (.int .i64 0)),(.val (.int .i64 0)),(.val (.int .i64 0)),(.val (.int .i64 0))]),(.cells [(.val (.int .i64 (p'))),(.val (.int .u32 (s'))),(.val (.int .u32 (d'))),(.val (.int .i64 (sp'))),(.val (.int .i64 (dp'))),(.val (.int .i64 (b'))),(.val (.int .i64 (l')))])],[((length M),(7,false))]⟩∧
 (((@Eq (Option TV) (.some (.agg [(.val (.int .i64 (p))),(.val (.int .u32 (s))),(.val (.int .u32 (d))),(.val (.int .i64 (sp))),(.val (.int .i64 (dp)))])) (.some (.agg [(.val (.int .i64 (p))),(.val (.int .u32 (s))),(.val (.int .u32 (d))),(.val (.int .i64 (sp))),(.val (.int .i64 (dp)))])))∧
 ((@Eq (Option TV) (.some (.vec 7 (L1 (0:Int)) .none)) (.some (.vec 7 (L1 (0:Int)) .none)))∧
 True))∧
 (aM prog (λ_=>.none) 0 ⟨[(.cells [(.val (.int .i64 20)),(.val (.int .i64 100)),(.val (.int .i64 0)),(.vec 7 (L1 (0:Int)) .none),(.val (.int .i64 (wrap i64 (c+(1:Int))))),(.val (.int .i64 (wrap i64 (g+(1:Int)))))]),(.cells [(.val (.int .i64 (p))),(.val (.int .u32 (s))),(.val (.int .u32 (d))),(.val (.int .i64 (sp))),(.val (.int .i64 (dp)))]),(.cells [(.val (.int .i64 0)),(.val (.int .u32 0)),(.val (.int .u32 0)),(.val (.int .i64 0)),(.val (.int .i64 0)),(.val (.int .i64 0)),(.val (.int .i64 0))]),(.cells [(.val (.int .i64 (p'))),(.val (.int .u32 (s'))),(.val (.int .u32 (d'))),(.val (.int .i64 (sp'))),(.val (.int .i64 (dp'))),(.val (.int .i64 (b'))),(.val (.int .i64 (l')))])],[((length M),(7,false))]⟩ (.call ⟨(.builtin .append),#[(.tmp 62),(.tmp 67)],#[127,127]⟩) [(62,(.vec 7 (M) (.tail 0 (length M)))),(67,(.vec 7 [[(.val (.int .i64 (p))),(.val (.int .u32 (s))),(.val (.int .u32 (d))),(.val (.int .i64 (sp))),(.val (.int .i64 (dp))),(.val (.int .i64 (b))),(.val (.int .i64 0))]] .full))] (.vec 7 (M++ [i5 (bQ p s d sp dp) b (0:Int)]) (.tail 0 (length M+(1:Nat)))) ⟨[(.cells [(.val (.int .i64 20)),(.val (.int .i64 100)),(.val (.int .i64 0)),(.vec 7 (L1 (0:Int)) .none),(.val (.int .i64 (wrap i64 (c+(1:Int))))),(.val (.int .i64 (wrap i64 (g+(1:Int)))))]),(.cells [(.val (.int .i64 (p))),(.val (.int .u32 (s))),(.val (.int .u32 (d))),(.val (.int .i64 (sp))),(.val (.int .i64 (dp)))]),(.cells [(.val (.int .i64 0)),(.val (.int .u32 0)),(.val (.int .u32 0)),(.val (.int .i64 0)),(.val (.int .i64 0)),(.val (.int .i64 0)),(.val (.int .i64 0))]),(.cells [(.val (.int .i64 (p'))),(.val (.int .u32 (s'))),(.val (.int .u32 (d'))),(.val (.int .i64 (sp'))),(.val (.int .i64 (dp'))),(.val (.int .i64 (b'))),(.val (.int .i64 (l')))])],[((length M+(1:Nat)),(7,false))]⟩∧
 Q (.tup [(.agg [(.val (.int .i64 (p'))),(.val (.int .u32 (s'))),(.val (.int .u32 (d'))),(.val (.int .i64 (sp'))),(.val (.int .i64 (dp'))),(.val (.int .i64 (b'))),(.val (.int .i64 (l')))]),(.val (.bool true))]) ⟨[(.cells [(.val (.int .i64 20)),(.val (.int .i64 100)),(.val (.int .i64 0)),(.vec 7 (M++ [i5 (bQ p s d sp dp) b (0:Int)]) (.tail 0 (length M+(1:Nat)))),(.val (.int .i64 (wrap i64 (c+(1:Int))))),(.val (.int .i64 (wrap i64 (g+(1:Int)))))]),(.cells [(.val (.int .i64 (p))),(.val (.int .u32 (s))),(.val (.int .u32 (d))),(.val (.int .i64 (sp))),(.val (.int .i64 (dp)))]),(.cells [(.val (.int .i64 (p'))),(.val (.int .u32 (s'))),(.val (.int .u32 (d'))),(.val (.int .i64 (sp'))),(.val (.int .i64 (dp'))),(.val (.int .i64 (b'))),(.val (.int .i64 (l')))]),(.cells [(.val (.int .i64 (p'))),(.val (.int .u32 (s'))),(.val (.int .u32 (d'))),(.val (.int .i64 (sp'))),(.val (.int .i64 (dp'))),(.val (.int .i64 (b'))),(.val (.int .i64 (l')))])],[((length M+(1:Nat)),(7,false))]⟩)))))
 else (aM prog (λ_=>.none) 0 ⟨[(.cells [(.val (.int .i64 20)),(.val (.int .i64 100)),(.val (.int .i64 0)),(.vec 7 (L) .none),(.val (.int .i64 (wrap i64 (c+(1:Int))))),(.val (.int .i64 (g)))]),(.cells [(.val (.int .i64 (p))),(.val (.int .u32 (s))),(.val (.int .u32 (d))),(.val (.int .i64 (sp))),(.val (.int .i64 (dp)))]),(.cells [(.val (.int .i64 0)),(.val (.int .u32 0)),(.val (.int .u32 0)),(.val (.int .i64 0)),(.val (.int .i64 0)),(.val (.int .i64 0)),(.val (.int .i64 0))]),(.cells [(.val (.int .i64 0)),(.val (.int .u32 0)),(.val (.int .u32 0)),(.val (.int .i64 0)),(.val (.int .i64 0)),(.val (.int .i64 0)),(.val (.int .i64 0))])],[]⟩ (.call ⟨(.builtin .append),#[(.tmp 57),(.tmp 61)],#[127,127]⟩) [(57,(.vec 7 [] .full)),(61,(.vec 7 (L) .none))] (.vec 7 (M) (.tail 0 (length M))) ⟨[(.cells [(.val (.int .i64 20)),(.val (.int .i64 100)),(.val (.int .i64 0)),(.vec 7 (L) .none),(.val (.int .i64 (wrap i64 (c+(1:Int))))),(.val (.int .i64 (g)))]),(.cells [(.val (.int .i64 (p))),(.val (.int .u32 (s))),(.val (.int .u32 (d))),(.val (.int .i64 (sp))),(.val (.int .i64 (dp)))]),(.cells [(.val (.int .i64 0)),(.val (.int .u32 0)),(.val (.int .u32 0)),(.val (.int .i64 0)),(.val (.int .i64 0)),(.val (.int .i64 0)),(.val (.int .i64 0))]),(.cells [(.val (.int .i64 0)),(.val (.int .u32 0)),(.val (.int .u32 0)),(.val (.int .i64 0)),(.val (.int .i64 0)),(.val (.int .i64 0)),(.val (.int .i64 0))])],[((length M),(7,false))]⟩∧
 (((@Eq (Option TV) (.some (.agg [(.val (.int .i64 (p))),(.val (.int .u32 (s))),(.val (.int .u32 (d))),(.val (.int .i64 (sp))),(.val (.int .i64 (dp)))])) (.some (.agg [(.val (.int .i64 (p))),(.val (.int .u32 (s))),(.val (.int .u32 (d))),(.val (.int .i64 (sp))),(.val (.int .i64 (dp)))])))∧
 ((@Eq (Option TV) (.some (.vec 7 (L) .none)) (.some (.vec 7 (L) .none)))∧
 True))∧
 (aM prog (λ_=>.none) 0 ⟨[(.cells [(.val (.int .i64 20)),(.val (.int .i64 100)),(.val (.int .i64 0)),(.vec 7 (L) .none),(.val (.int .i64 (wrap i64 (c+(1:Int))))),(.val (.int .i64 (g)))]),(.cells [(.val (.int .i64 (p))),(.val (.int .u32 (s))),(.val (.int .u32 (d))),(.val (.int .i64 (sp))),(.val (.int .i64 (dp)))]),(.cells [(.val (.int .i64 0)),(.val (.int .u32 0)),(.val (.int .u32 0)),(.val (.int .i64 0)),(.val (.int .i64 0)),(.val (.int .i64 0)),(.val (.int .i64 0))]),(.cells [(.val (.int .i64 0)),(.val (.int .u32 0)),(.val (.int .u32 0)),(.val (.int .i64 0)),(.val (.int .i64 0)),(.val (.int .i64 0)),(.val (.int .i64 0))])],[((length M),(7,false))]⟩ (.call ⟨(.builtin .append),#[(.tmp 62),(.tmp 67)],#[127,127]⟩) [(62,(.vec 7 (M) (.tail 0 (length M)))),(67,(.vec 7 [[(.val (.int .i64 (p))),(.val (.int .u32 (s))),(.val (.int .u32 (d))),(.val (.int .i64 (sp))),(.val (.int .i64 (dp))),(.val (.int .i64 (b))),(.val (.int .i64 0))]] .full))] (.vec 7 (M++ [i5 (bQ p s d sp dp) b (0:Int)]) (.tail 0 (length M+(1:Nat)))) ⟨[(.cells [(.val (.int .i64 20)),(.val (.int .i64 100)),(.val (.int .i64 0)),(.vec 7 (L) .none),(.val (.int .i64 (wrap i64 (c+(1:Int))))),(.val (.int .i64 (g)))]),(.cells [(.val (.int .i64 (p))),(.val (.int .u32 (s))),(.val (.int .u32 (d))),(.val (.int .i64 (sp))),(.val (.int .i64 (dp)))]),(.cells [(.val (.int .i64 0)),(.val (.int .u32 0)),(.val (.int .u32 0)),(.val (.int .i64 0)),(.val (.int .i64 0)),(.val (.int .i64 0)),(.val (.int .i64 0))]),(.cells [(.val (.int .i64 0)),(.val (.int .u32 0)),(.val (.int .u32 0)),(.val (.int .i64 0)),(.val (.int .i64 0)),(.val (.int .i64 0)),(.val (.int .i64 0))])],[((length M+(1:Nat)),(7,false))]⟩∧
 Q (.tup [(.agg [(.val (.int .i64 0)),(.val (.int .u32 0)),(.val (.int .u32 0)),(.val (.int .i64 0)),(.val (.int .i64 0)),(.val (.int .i64 0)),(.val (.int .i64 0))]),(.val (.bool false))]) ⟨[(.cells [(.val (.int .i64 20)),(.val (.int .i64 100)),(.val (.int .i64 0)),(.vec 7 (M++ [i5 (bQ p s d sp dp) b (0:Int)]) (.tail 0 (length M+(1:Nat)))),(.val (.int .i64 (wrap i64 (c+(1:Int))))),(.val (.int .i64 (g)))]),(.cells [(.val (.int .i64 (p))),(.val (.int .u32 (s))),(.val (.int .u32 (d))),(.val (.int .i64 (sp))),(.val (.int .i64 (dp)))]),(.cells [(.val (.int .i64 0)),(.val (.int .u32 0)),(.val (.int .u32 0)),(.val (.int .i64 0)),(.val (.int .i64 0)),(.val (.int .i64 0)),(.val (.int .i64 0))]),(.cells [(.val (.int .i64 0)),(.val (.int .u32 0)),(.val (.int .u32 0)),(.val (.int .i64 0)),(.val (.int .i64 0)),(.val (.int .i64 0)),(.val (.int .i64 0))])],[((length M+(1:Nat)),(7,false))]⟩)))))):=by kernel_rfl
end
section
open Go.RowKit
section
variable {P:Program}{G:aD}{g:Gh}{T:VT}{w:World}
theorem RW.objLeAt (r:RW g T w){i:Nat}{o o':VO}(hi:T.objs[i]?=some o)(hl:o.live=true)(_hl':o'.live=true)(ho:∀b,g.obj i=some b→OR g w b o→OR g w b o'):RW g {T with objs:=T.objs.set i o' } w:=by
 have hil:i<T.objs.length:=(List.getElem?_eq_some_iff.1 hi).1
 have at':∀(j:Nat) oj,(T.objs.set i o')[j]?=some oj→oj.live=true→∃o2,T.objs[j]?=some o2∧o2.live=true∧∀b,g.obj j=some b→OR g w b o2→OR g w b oj:=λj oj h hlj=>by
  rw [getElem?_set] at h
  split at h
  ·rename_i hij;subst hij
   injection h with h;subst h
   exact ⟨o,hi,hl,ho⟩
  ·exact ⟨oj,h,hlj,λ_ _ h=>h⟩
 exact {
  obj:=λid oj h hlj=>by
   obtain ⟨o2,h1,h2,h3⟩:=at' id oj h hlj
   obtain ⟨b,h4,h5,h6⟩:=r.obj id o2 h1 h2
   exact ⟨b,h4,h3 b h4 h5,h6⟩
  inj:=λi j oi oj b hi li hj lj=>by
   obtain ⟨o2,h1,h2,_⟩:=at' i oi hi li
   obtain ⟨o3,h3,h4,_⟩:=at' j oj hj lj
   exact r.inj i j o2 o3 b h1 h2 h3 h4
  out:=λid h=>r.out id (by simpa using h)
  st:=r.st
  fr:=r.fr
  tl:=r.tl
  tout:=r.tout
  tinj:=r.tinj
  tobj:=λi oi b k x hi li=>by
   obtain ⟨o2,h1,h2,_⟩:=at' i oi hi li
   exact r.tobj i o2 b k x h1 h2
  own:=r.own
  own0:=r.own0
  tlo:=r.tlo}
theorem RW.objLe (r:RW g T w){i:Nat}{o o':VO}(hi:T.objs[i]?=some o)(hl:o.live=true)(hl':o'.live=true)(ho:∀b,OR g w b o→OR g w b o'):RW g {T with objs:=T.objs.set i o' } w:=r.objLeAt hi hl hl' λb _ h=>ho b h
theorem I8 {cs cs':List TV}{us:List Value}(hl:cs'.length=cs.length)(h:∀(j:Nat) x x' u,cs[j]?=some x→cs'[j]?=some x'→VR g w x u→VR g w x' u)(hv:VRs g w cs us):VRs g w cs' us:=
 ⟨by rw [hl];exact hv.1,λj x' u hx hu=>by
  have hj:=(List.getElem?_eq_some_iff.1 hx).1
  exact h j _ x' u (getElem?_eq_getElem (by omega)) hx (hv.2 j _ u (getElem?_eq_getElem (by omega)) hu)⟩
theorem BN {size:Nat}{u:Value}(h:VR g w (.val (.slice none 0 0)) u):VR g w (.vec size [] .none) u:=by
 rw [h.val_inv];exact .nil trivial
theorem VCx.freezeCell {f:FuncId}{xs:List TV}{T:VT}{Q:TV→VT→Prop}{i size:Nat}{es:List (List TV)}(h:VCx P G 0 f xs T λx T'=>∃id off n,T'.objs[i]?=some (.cells [.row size id off n])∧cl T' size (.row size id off n)=some es∧Q x {(T'.kill id) with objs:=(T'.kill id).objs.set i (.cells [.vec size es .none])}):
  VCx P G 0 f xs T Q:=by
 intro g w us rw0 hG hx
 refine Calls.mono (h g w us rw0 hG hx) ?_
 rintro e w' ⟨v,x,g',T',he,⟨id,off,n,h1,h2,hq⟩,e',r',hv,hfx⟩
 obtain ⟨b,h3,⟨vs,t,h4,h5,h6⟩,h7⟩:=r'.obj i _ h1 rfl
 obtain ⟨u,hu,hvu⟩:=h5.at (j:=0) rfl
 obtain ⟨g2,e2,r2,v2⟩:=nN r' h2 hvu
 have hne:id≠i:=by
  rintro rfl
  simp only [cl,h1] at h2
  cases h2
 have hi2:(T'.kill id).objs[i]?=some (.cells [.row size id off n]):=by
  simp only [VT.kill,getElem?_set]
  rw [if_neg hne];exact h1
 have hus:vs= [u]:=by
  match vs,h5.1,hu with
  |[a],_,hu=>simp at hu;rw [hu]
 have hin:∀b',g2.obj i=some b'→b'=b:=λb' hb'=>by
  have:=e2.obj i b h3
  rw [this] at hb';injection hb' with hb';exact hb'.symm
 have r3:RW g2 {(T'.kill id) with objs:=(T'.kill id).objs.set i (.cells [.vec size es .none])} w':=by
  --the object's block is known:its cell is u
  have key:∀b',g2.obj i=some b'→OR g2 w' b' (.cells [.row size id off n])→OR g2 w' b' (.cells [.vec size es .none]):=λb' hb' ⟨us',t',k1,k2,k3⟩=>by
   rw [hin b' hb',h4] at k1
   injection k1 with k1;injection k1 with k1
   have:us'=vs:=by have:=congrArg toList k1;simpa using this.symm
   subst this
   refine ⟨us',t',by rw [hin b' hb',h4,←k1];simp_all,?_,k3⟩
   rw [hus]
   exact VRs.cons v2 (VRs.nil _ _)
  exact r2.objLeAt hi2 rfl rfl key
 refine ⟨v,x,g2,_,he,hq,e'.trans e2,r3,hv.mono e2,⟨?_,λi hi=>absurd hi (not_lt_zero i),λi o b hi=>absurd hi (not_lt_zero i)⟩⟩
 have:=hfx.len
 simp only [VT.kill,length_set];exact this
end
end
section
open Go.RowKit
section
variable {P:Program}{G:aD}{g:Gh}{T:VT}{w:World}
theorem VWx.nilAt {c:Code}{σ:List TV}{D:List Nat}{i j size:Nat}{cs:List TV}{Q:KX}(hi:T.objs[i]?=some (.cells cs))(hj:cs[j]?=some (.val (.slice none 0 0)))(h:VWx P G none 0 c σ {T with objs:=T.objs.set i (.cells (cs.set j (.vec size [] .none)))} D Q):VWx P G none 0 c σ T D Q:=by
 intro r g w a rw0 hG hσ hd hD hr
 have r':=rw0.objLe hi rfl (o':=.cells (cs.set j (.vec size [] .none))) rfl λb ⟨us,t,h1,h2,h3⟩=>⟨us,t,h1,I8 (by simp) (λk x x' u hx hx' hv=>by
  rw [getElem?_set] at hx'
  split at hx'
  ·rename_i hjk;subst hjk
   rw [hj] at hx;injection hx with hx;subst hx
   rw [if_pos (List.getElem?_eq_some_iff.1 hj).1] at hx'
   injection hx' with hx';subst hx'
   exact BN hv
  ·rw [hx] at hx';injection hx' with hx';subst hx';exact hv) h2,h3⟩
 refine wpIn_mono (h r g w a r' hG hσ hd hD hr) ?_
 rintro e a' w' ⟨g',σ',T',D',hq,e',r2,hσ',hd',hD',hfx⟩
 refine ⟨g',σ',T',D',hq,e',r2,hσ',hd',hD',⟨?_,λi hi=>absurd hi (not_lt_zero i),λi o b hi=>absurd hi (not_lt_zero i)⟩⟩
 have:=hfx.len
 simpa using this
theorem VCx.freezeCellAt {f:FuncId}{xs:List TV}{T:VT}{Q:TV→VT→Prop}{i j size:Nat}{es:List (List TV)}(h:VCx P G 0 f xs T λx T'=>∃id off n cs,T'.objs[i]?=some (.cells cs)∧cs[j]?=some (.row size id off n)∧cl T' size (.row size id off n)=some es∧Q x {(T'.kill id) with objs:=(T'.kill id).objs.set i (.cells (cs.set j (.vec size es .none)))}):
  VCx P G 0 f xs T Q:=by
 intro g w us rw0 hG hx
 refine Calls.mono (h g w us rw0 hG hx) ?_
 rintro e w' ⟨v,x,g',T',he,⟨id,off,n,cs,h1,hj,h2,hq⟩,e',r',hv,hfx⟩
 obtain ⟨b,h3,⟨vs,t,h4,h5,h6⟩,h7⟩:=r'.obj i _ h1 rfl
 obtain ⟨u,hu,hvu⟩:=h5.at hj
 obtain ⟨g2,e2,r2,v2⟩:=nN r' h2 hvu
 have hne:id≠i:=by
  rintro rfl
  simp only [cl,h1] at h2
  cases h2
 have hi2:(T'.kill id).objs[i]?=some (.cells cs):=by
  simp only [VT.kill,getElem?_set]
  rw [if_neg hne];exact h1
 have hin:∀b',g2.obj i=some b'→b'=b:=λb' hb'=>by
  have:=e2.obj i b h3
  rw [this] at hb';injection hb' with hb';exact hb'.symm
 have r3:RW g2 {(T'.kill id) with objs:=(T'.kill id).objs.set i (.cells (cs.set j (.vec size es .none)))} w':=by
  have key:∀b',g2.obj i=some b'→OR g2 w' b' (.cells cs)→OR g2 w' b' (.cells (cs.set j (.vec size es .none))):=λb' hb' ⟨us',t',k1,k2,k3⟩=>by
   have k1':=k1
   rw [hin b' hb',h4] at k1
   injection k1 with k1;injection k1 with k1
   have hus:us'=vs:=by have:=congrArg toList k1;simpa using this.symm
   refine ⟨us',t',k1',?_,k3⟩
   have k4:=k2.set j (x:=.vec size es .none) (u:=u) v2
   have:us'.set j u=us':=by
    rw [hus]
    apply ext_getElem?
    intro m
    rw [getElem?_set]
    split
    ·rename_i hm;subst hm
     rw [hu,if_pos (List.getElem?_eq_some_iff.1 hu).1]
    ·rfl
   rw [this] at k4
   exact k4
  exact r2.objLeAt hi2 rfl rfl key
 refine ⟨v,x,g2,_,he,hq,e'.trans e2,r3,hv.mono e2,⟨?_,λi hi=>absurd hi (not_lt_zero i),λi o b hi=>absurd hi (not_lt_zero i)⟩⟩
 have:=hfx.len
 simp only [VT.kill,length_set];exact this
end
end
section
open Go.RowKit
section
variable {P:Program}{G:aD}
theorem mG {ro:Nat}{T:VT}{t:TypeId}{d:TypeDesc}{a:Operand}{l:List (Nat × TV)}{inf:TypeInfo}{id off:Nat}{cs:List TV}{y:TV}(ht:P.underlying t=some d)(hd:ge d=false)(hi:P.info? t=some inf)
  (ha:aq G l a=.ptr id off) (ho:T.objs[id]?=some (.cells cs)) (hy:cs[off]?=some y):aM P G ro T (.load t a) l y T:=by
 refine .mk ?_
 have hlt:=(List.getElem?_eq_some_iff.1 hy).1
 have hc:bJ T (.ptr id off) 1=some [y]:=by
  simp only [bJ,ho]
  rw [if_pos (by omega)]
  congr 1
  rw [List.take_one,List.head?_drop,hy];rfl
 have h1:aR P (.load t a) (aq G l)=none:=by simp [aR,cN]
 have h2:aK P T (.load t a) (aq G l)=some y:=by simp [aK,cM,eV,ht,hi,hd,ha,hc]
 simp only [eY,h1,h2]
theorem lu {ro:Nat}{T:VT}{t:TypeId}{a x:Operand}{l:List (Nat × TV)}{inf:TypeInfo}{id off:Nat}{cs new:List TV}(hi:P.info? t=some inf)
  (ha:aq G l a=.ptr id off) (hx:bb (aq G l x)=some new) (ho:T.objs[id]?=some (.cells cs)) (hn:inf.size=new.length) (hle:off+new.length≤cs.length) (hc:new.all dD=true) (hro:ro≤id):
  aM P G ro T (.store t a x) l (.val undef) {T with objs:=T.objs.set id (.cells (aV cs off new))}:=by
 refine .old ?_ ?_
 ·simp [lN,ha,hro]
 ·have h1:kQ P T t (aq G l a) (aq G l x)=some (.val undef,{T with objs:=T.objs.set id (.cells (aV cs off new))}):=by
   simp only [kQ,ha,ho,hx,hi]
   rw [if_pos ⟨hn,hle,hc⟩]
  simp [qH,cN,cM,kS,h1]
theorem pD (cs:List TV)(off:Nat)(y:TV)(h:off<cs.length):aV cs off [y]=cs.set off y:=by
 unfold aV
 rw [List.set_eq_take_append_cons_drop,if_pos h]
 simp
end
end
set_option maxRecDepth 100000
section
open Go.RowKit Go.Maps Go.Sort
theorem lv (f g:Nat→Option Nat):∀l:List Mb,bL f g (l.map aF)=l.map aF
 |[]=>rfl
 |a::l=>by simp only [map_cons,bL,lv f g l];rfl
theorem qz (f g:Nat→Option Nat)(n:Int)(l:List Mb):VO.ren f g (jS n (l.map aF))=jS n (l.map aF):=by
 simp only [jS,VO.ren,av,TV.ren,lv,Tok.ren]
theorem jn:∃inf:TypeInfo,prog.info? 135=some inf∧inf.size=5∧inf.bytes+1≤1000∧inf.zero=some (.agg #[.int .i64 0,.int .u32 0,.int .i64 0,.bool false,.bool false]):=
 ⟨(prog.info? 135).getD default,by kernel_rfl,by kernel_rfl,Nat.le_of_ble_eq_true (by kernel_rfl),by kernel_rfl⟩
theorem rW {x i:Operand}{l:List (Nat × TV)}{L:List (List TV)}{tok:Tok}{k:IntKind}{z:Int}{e:List TV}(hx:aq ae l x=.vec 5 L tok)(hz:aq ae l i=.val (.int k z))(h0:0≤z)(he:L[z.toNat]?=some e):
  aJ prog ae (.indexAddr 130 x i) l (.elt e):=by
 obtain ⟨inf,i_at,i_size,_,_⟩:=jn
 exact dN (inf:=inf) underlying130 i_at (by rw [i_size];exact hx) hz h0 he
theorem BO {x i:Operand}{l:List (Nat × TV)}{es:List (List TV)}{tok:Tok}{k:IntKind}{z:Int}{n:Nat}(hx:aq ae l x=.vec 5 es tok)(hz:aq ae l i=.val (.int k z))(h0:0≤z)(hn:z.toNat=n)(he:n≤es.length):aJ prog ae (.slice 130 x none (some i) none) l (.vec 5 (es.take n) .none):=by
 subst hn
 obtain ⟨inf,i1,i2,_,_⟩:=jn
 have h:=rK (inf:=inf) (P:=prog) (G:=ae) (x:=x) (i:=i) (l:=l) (es:=es) (tok:=tok) underlying130 i1 (by rw [i2];exact hx) hz h0 he
 rw [i2] at h
 exact h
theorem BP {x i:Operand}{l:List (Nat × TV)}{es:List (List TV)}{tok:Tok}{k:IntKind}{z:Int}{n:Nat}(hx:aq ae l x=.vec 5 es tok)(hz:aq ae l i=.val (.int k z))(h0:0≤z)(hn:z.toNat=n)(he:n≤es.length):aJ prog ae (.slice 130 x (some i) none none) l (.vec 5 (es.drop n) tok):=by
 subst hn
 obtain ⟨inf,i1,i2,_,_⟩:=jn
 have h:=rL (inf:=inf) (P:=prog) (G:=ae) (x:=x) (i:=i) (l:=l) (es:=es) (tok:=tok) underlying130 i1 (by rw [i2];exact hx) hz h0 he
 rw [i2] at h
 exact h
theorem rX {T T1:VT}{s x:Operand}{l:List (Nat × TV)}{es es2:List (List TV)}{k n:Nat}{bn:Bool}(hs:cw T 5 (aq ae l s)=some (es,k,n,bn,T1))(hx:gL 5 (aq ae l x)=some es2)(hb:es.length+es2.length≤3000):
    aM prog ae 0 T (.call ⟨.builtin .append,#[s,x],#[130,130]⟩) l (.vec 5 (es++es2) (.tail k (n+es2.length))) {T1 with tails:=T1.tails.set k (n+es2.length,5,bn)}:=by
  obtain ⟨inf,i1,i2,i3,i4⟩:=jn
  have h:=iG (inf:=inf) (P:=prog) (G:=ae) (ro:=0) (T:=T) (T1:=T1) (t:=130) (tx:=130) (s:=s) (x:=x) (l:=l) (es:=es) (es2:=es2) (k:=k) (n:=n) (bn:=bn) underlying130 i1 i4 (by rw [i2];rfl) (by rw [i2];decide) (by kernel_rfl) (by rw [i2];exact hs) (by rw [i2];exact hx)
    (by have h1:=i3
        have h2:=mul_le_mul hb h1
        omega)
  rw [i2] at h
  exact h
def nf (L:List Mb)(i:Int):Option Nat:=L.findIdx? λr=>r.1.1==i
def fE (L:List Mb)(i:Int):Int:=match nf L i with
 |some k=>k
 |none=>-1
theorem Fk {L:List Mb}{i:Int}{k:Nat}(h:nf L i=some k):k<L.length:=(List.findIdx?_eq_some_iff_getElem.1 h).1
theorem I9 {L:List Mb}{i:Int}{j:Nat}{r:Mb}(h:L[j]?=some r)(hr:r.1.1=i)(hj:∀k r',k<j→L[k]?=some r'→r'.1.1≠i):nf L i=some j:=by
 obtain ⟨hjl,h1⟩:=List.getElem?_eq_some_iff.1 h
 refine List.findIdx?_eq_some_iff_getElem.2 ⟨hjl,by simp [h1,hr],λk hk=> ?_⟩
 have:=hj k _ hk (getElem?_eq_getElem (by omega))
 simpa using this
theorem Hm {L:List Mb}{i:Int}(hj:∀k r',k<L.length→L[k]?=some r'→r'.1.1≠i):nf L i=none:=by
 refine List.findIdx?_eq_none_iff.2 λr hr=> ?_
 obtain ⟨k,hk,rfl⟩:=List.getElem_of_mem hr
 simpa using hj k _ hk (getElem?_eq_getElem hk)
section
variable (n:Int)
theorem jp (L:List Mb)(l:List VO):VT.keep (b8 n (L.map aF) l) 1 0=b8 n (L.map aF) []:=by
 have e1:=qz (ai 1) (ai 0) n L
 simp only [VT.keep,b8,take_succ_cons,take_zero,map_cons,map_nil,e1]
theorem Ja (L:List Mb)(hl:L.length≤1000)(i:Int):VCx prog ae 0 lr [.ptr 0 0,.val (.int .i64 i)] (b8 n (L.map aF) []) λx T'=>x=.val (.int .i64 (fE L i))∧T'=b8 n (L.map aF) []:=by
 have hloop:ek prog ae (LM n (L.map aF) i (fE L i) (nf L i).isSome (ax prog lr 0)):=cq λp hp=>by
  obtain rfl:=mem_singleton.1 hp
  refine dA λK hK=> ?_
  let sl:Nat→List TV:=λj=>vT (L.map aF) i 0 j
  let Post:Exit→List TV→VT→Prop:=λe vs T=>(∃k:Nat,∃cs,nf L i=some k∧e=.ret∧vs=vT (L.map aF) i k k∧T=b8 n (L.map aF) [.cells cs])∨(nf L i=none∧e=.normal∧vs=sl L.length∧T=b8 n (L.map aF) [])
  refine fv (f:=lr) (id:=0) (by kernel_rfl) 24 zY (λj=>L.length-j) sl (λ_=>b8 n (L.map aF) []) (λj=>j≤L.length∧∀k r',k<j→L[k]?=some r'→r'.1.1≠i) 1 0 (λ_ _=>⟨le_refl _,le_refl _⟩)
   Post (λj hj=> ?_) 0 ⟨zero_le _,λk _ hk=>absurd hk (not_lt_zero k)⟩ K (λe vs T hq=> ?_)
  ·obtain ⟨hj,hne⟩:=hj
   by_cases hlt:j<L.length
   ·have hs:L[j]?=some L[j]:=getElem?_eq_getElem hlt
    generalize L[j]=r at hs
    have hw:=fV j (by omega)
    refine cn ah ag aw ak (Dl n (L.map aF) i 0 r.1.1 r.1.2.1 r.1.2.2 r.2.1 r.2.2 j _) ?_
    refine aZ (decide_eq_true (by rw [length_map];omega)) ⟨rW rfl rfl (natCast_nonneg _) (by simp only [toNat_natCast];rw [getElem?_map,hs];rfl),?_⟩
    by_cases he:r.1.1=i
    ·refine aZ (by rw [q9];exact decide_eq_true he) ⟨rfl,rfl,.inl ⟨j,_,I9 hs he hne,rfl,rfl,rfl⟩⟩
    ·refine aA (by rw [q9];exact decide_eq_false he) ⟨rfl,rfl,j+1,⟨hlt,λk r' hk hr=> ?_⟩,by simp only;omega,.inr ⟨jp n L _,?_⟩⟩
     ·rcases Nat.lt_or_ge k j with h | h
      ·exact hne k r' h hr
      ·obtain rfl:k=j:=by omega
       rw [hs] at hr;injection hr with hr;subst hr;exact he
     ·simp only [av,TV.ren,lv,Tok.ren]
      simp only [sl,vT,hw]
   ·obtain rfl:j=L.length:=by omega
    refine cn ah ag aw ak (Dl n (L.map aF) i 0 0 0 0 false false L.length _) ?_
    exact aA (decide_eq_false (by rw [length_map];omega)) ⟨rfl,rfl,.inr ⟨Hm hne,rfl,rfl,rfl⟩⟩
  ·rcases hq with ⟨k,cs,h1,rfl,rfl,rfl⟩ | ⟨h1,rfl,rfl,rfl⟩
   ·simp only [h1,Option.isSome_some,cond_true,fE] at hK
    exact hK cs
   ·simp only [h1,Option.isSome_none,cond_false] at hK
    have e1:sl L.length=vT (L.map aF) i 0 (L.map aF).length:=by simp only [sl,length_map]
    rw [e1]
    exact hK
 refine VCx.keepQ 1 0 (le_refl _) (le_refl _) (ap ah ag aw hloop (KT n (L.map aF) i (fE L i) (nf L i).isSome _) ?_)
 refine ⟨rfl,⟨rfl,rfl,rfl,trivial,rfl,rfl,rfl⟩,?_⟩
 cases h:nf L i with
 |none=>exact aA rfl ⟨by simp only [fE,h];rfl,jp n L _⟩
 |some k=>exact aZ rfl λcs=>⟨by simp only [fE,h];rfl,jp n L _⟩
theorem BQ {f:FuncId}{ys0 ys1:List TV}{L:List Mb}{k:Nat}(hy:av (aj [k]) (aj []) ys0=ys1){R:TV→List Mb→Prop}(hR:∀x L',R x L'→∀f g,x.ren f g=x)
  (hv:VCx prog ae 0 f ys1 (b8 n (L.map aF) []) λx T'=>∃L',R x L'∧T'=b8 n (L'.map aF) []) {T:VT} (ho:T.objs[k]?=some (jS n (L.map aF))):
  VCx prog ae 0 f ys0 T λx T'=>∃L',R x L'∧T'={T with objs:=T.objs.set k (jS n (L'.map aF))}:=by
 have hg:T.give [k] []=b8 n (L.map aF) []:=by
  have:=qz (aj [k]) (aj []) n L
  simp only [VT.give,map_cons,map_nil,ho,getD_some,this,b8]
 refine (VCx.lift (xs:=ys1) [k] [] bg (by simp) nodup_nil (λj hj=> ?_) (by simp) (λ_ _=>zero_le _) hy (by rw [hg];exact hv) (λx T' hq=> ?_)).mono ?_
 ·obtain rfl:=mem_singleton.1 hj;exact ⟨_,ho,rfl⟩
 ·obtain ⟨L',_,rfl⟩:=hq;exact ⟨le_refl 1,zero_le _⟩
 ·rintro x T' ⟨y,T2,⟨L',hr,rfl⟩,rfl,rfl⟩
  refine ⟨L',by rw [hR _ _ hr];exact hr,?_⟩
  have:=qz (an T.objs.length [k]) (an T.tails.length []) n L'
  simp only [VT.back,b8,map_cons,map_nil,this,aT,append_nil]
theorem yA (L:List Mb)(hl:L.length≤1000)(i:Int):∀ro ys T K,yy n (L.map aF) i (fE L i) ro ys T K→VCx prog ae ro lr ys T K:=by
 rintro ro ys T K ⟨⟨rfl,rfl,ho⟩,hk⟩
 refine (BQ n (ys1:= [.ptr 0 0,.val (.int .i64 i)]) (k:=0) rfl (R:=λx L'=>x=.val (.int .i64 (fE L i))∧L'=L) (λx L' h _ _=>by rw [h.1];rfl) ((Ja n L hl i).mono ?_) ho).mono ?_
 ·rintro x T' ⟨rfl,rfl⟩;exact ⟨L,⟨rfl,rfl⟩,rfl⟩
 ·rintro x T' ⟨L',⟨rfl,rfl⟩,rfl⟩
  rw [fA ho];exact hk
theorem z7 {L:List Mb}{i:Int}:(nf L i=none∧fE L i=-1)∨∃k,nf L i=some k∧fE L i=k∧k<L.length:=by
 unfold fE
 cases h:nf L i with
 |none=>exact .inl ⟨rfl,rfl⟩
 |some k=>exact .inr ⟨k,rfl,rfl,Fk h⟩
def ia (L:List Mb)(i:Int):Mb:=match nf L i with
 |some k=>L[k]?.getD FS
 |none=>FS
theorem Jb (L:List Mb)(hl:L.length≤1000)(i:Int):VCx prog ae 0 yv [.ptr 0 0,.val (.int .i64 i)] (b8 n (L.map aF) []) λx T'=>x=.agg (aF (ia L i))∧T'=b8 n (L.map aF) []:=by
 have hC:aQ prog ae (az [(lr,yy n (L.map aF) i (fE L i))]):=aE λp hp=>by obtain rfl:=mem_singleton.1 hp;exact yA n L hl i
 rcases z7 (L:=L) (i:=i) with ⟨hn,hz⟩ | ⟨k,hn,hz,hk⟩
 ·refine VCx.keepQ 1 0 (le_refl _) (le_refl _) (ap ah ag hC ak (F5 n (L.map aF) i (fE L i) 0 0 0 false false _) ?_)
  exact ⟨⟨rfl,rfl,rfl⟩,aZ (decide_eq_true (by omega)) ⟨by unfold ia;rw [hn];rfl,jp n L _⟩⟩
 ·have hs:L[k]?=some L[k]:=getElem?_eq_getElem hk
  generalize L[k]=r at hs
  refine VCx.keepQ 1 0 (le_refl _) (le_refl _) (ap ah ag hC ak (F5 n (L.map aF) i (fE L i) r.1.1 r.1.2.1 r.1.2.2 r.2.1 r.2.2 _) ?_)
  exact ⟨⟨rfl,rfl,rfl⟩,aA (decide_eq_false (by omega)) ⟨rW rfl rfl (by omega) (by rw [hz,toNat_natCast,getElem?_map,hs];rfl),by unfold ia;rw [hn];simp only [hs];rfl,jp n L _⟩⟩
theorem z8 (l:List Mb):∀e∈l.map aF,e.length=5:=λe he=>by obtain ⟨s,_,rfl⟩:=mem_map.1 he;rfl
theorem Do (x:Mb):∀(m:List Mb) (k:Nat),k<m.length→aV (m.map aF).flatten (k*5) (aF x)=((m.set k x).map aF).flatten
 |[],k,h=>by simp at h
 |b::l,0,h=>rfl
 |b::l,k+1,h=>by
  have ih:=Do x l k (by simpa using h)
  have e1:(k+1)*5=k*5+5:=by omega
  have h1:∀(l:List TV) (o:Nat),aV (aF b++l) (o+5) (aF x)=aF b++aV l o (aF x):=λl o=>by
   have e4:o+5+(aF x).length=(o+(aF x).length)+5:=Nat.add_right_comm _ _ _
   simp only [aV,e4]
   simp only [aF]
   first | done | rfl
  rw [e1,set_cons_succ,map_cons,map_cons,flatten_cons,flatten_cons,h1,ih]
theorem Jc (L:List Mb)(hpos:0<L.length)(h:L.length≤16):aM prog ae 0 (b8 n (L.map aF) []) (.call ⟨.builtin .append,#[.tmp 18,.tmp 22],#[130,130]⟩) [(18,.vec 5 [] .full),(22,.vec 5 (L.map aF) .none)] (.row 5 1 0 (L.map aF).length) (b8 n (L.map aF) [.row (L.map aF).flatten]):=by
  obtain ⟨inf,i1,i2,i3,i4⟩:=jn
  match L,hpos,h with
  |b::r,_,h=>
    have a:=tg (inf:=inf) (P:=prog) (G:=ae) (ro:=0) (T:=b8 n ((b::r).map aF) []) (t:=130) (tx:=130) (s:=.tmp 18) (x:=.tmp 22) (l:= [(18,.vec 5 [] .full),(22,.vec 5 ((b::r).map aF) .none)]) (q0:=aF b) (qs:=r.map aF) (tok:=.none)
      underlying130 i1 i4 (by rw [i2];rfl) (by decide) (by kernel_rfl) (by rw [i2];rfl) (by rw [i2];rfl)
      (by have h2:=mul_le_mul (show (aF b::r.map aF).length≤16 by simpa using h) i3
          omega)
    rw [i2] at a
    exact a
theorem Dp {x i:Operand}{n:Nat}{l:List (Nat × TV)}{k:Nat}{z:Int}(hx:aq ae l x=.row 5 1 0 n)(hz:aq ae l i=.val (.int .i64 z))(hzk:z=k)(h1:k<n):aJ prog ae (.indexAddr 130 x i) l (.ptr 1 (k*5)):=by
 subst hzk
 obtain ⟨inf,i1,i2,i3,i4⟩:=jn
 have a:=pn (inf:=inf) (P:=prog) (G:=ae) (x:=x) (i:=i) (l:=l) (id:=1) (off:=0) (n:=n) (k:=.i64) (z:=(k:Int)) underlying130 i1 (by rw [i2];exact hx) hz (natCast_nonneg _) (by omega)
 rw [i2] at a
 simpa using a
theorem Fm {T:VT}{t:TypeId}{d:TypeDesc}{a:Operand}{l:List (Nat × TV)}{inf:TypeInfo}{id off:Nat}{cs:List TV}{y:TV}(ht:prog.underlying t=some d)(hd:ge d=false)(hi:prog.info? t=some inf)
  (ha:aq ae l a=.ptr id off) (ho:T.objs[id]?=some (.row cs)) (hy:cs[off]?=some y):cm prog ae T false (.load t a) l y:=by
 refine .mk ?_
 have hlt:=(List.getElem?_eq_some_iff.1 hy).1
 have hc:bJ T (.ptr id off) 1=some [y]:=by
  simp only [bJ,ho]
  rw [if_pos (by omega)]
  congr 1
  rw [List.take_one,List.head?_drop,hy];rfl
 simp [iS,aR,cN,aK,cM,eV,ht,hi,hd,ha,hc]
theorem Hn (L:List Mb):(L.map aF).flatten.length=L.length*5:=by
 have:=bs (z8 L)
 rwa [length_map] at this
theorem vV:∀(L:List Mb) (k:Nat) (r:Mb),L[k]?=some r→(L.map aF).flatten[k*5+1]?=some (.val (.int .u32 r.1.2.1))
 |[],_,_,h=>by simp at h
 |b::l,0,r,h=>by simp at h;subst h;rfl
 |b::l,k+1,r,h=>by
  have ih:=vV l k r (by simpa using h)
  have e1:(k+1)*5+1=(k*5+1)+5:=by omega
  rw [e1,map_cons,flatten_cons]
  simp only [aF,cons_append,List.nil_append,getElem?_cons_succ]
  exact ih
def j9 (L:List Mb):Prop:=L.length≤16
theorem Jd (L:List Mb)(hl:j9 L)(i w:Int)(u d:Bool):VCx prog ae 0 yw [.ptr 0 0,.val (.int .i64 i),.val (.bool u),.val (.bool d),.val (.int .i64 w)] (b8 n (L.map aF) []) λx T'=>∃L',(j9 L'∧∃e,x=.val (.int .i64 e))∧T'=b8 n (L'.map aF) []:=by
 unfold j9 at hl
 have hC:aQ prog ae (az [(lr,yy n (L.map aF) i (fE L i))]):=aE λp hp=>by obtain rfl:=mem_singleton.1 hp;exact yA n L (by omega) i
 rcases z7 (L:=L) (i:=i) with ⟨_,hz⟩ | ⟨k,_,hz,hk⟩
 ·refine VCx.keepQ 1 0 (le_refl _) (le_refl _) (ap ah ag hC ak (F6 n (L.map aF) i w (fE L i) 0 u d 0 _) ?_)
  exact ⟨⟨rfl,rfl,rfl⟩,aZ (decide_eq_true (by omega)) ⟨L,⟨hl,7,rfl⟩,jp n L _⟩⟩
 ·have hs:L[k]?=some L[k]:=getElem?_eq_getElem hk
  generalize L[k]=r at hs
  have hset:=Do ((i,r.1.2.1,w),u,d) L k hk
  have hfl:=Hn L
  have hmul:(k+1)*5≤L.length*5:=Nat.mul_le_mul_right _ hk
  refine VCx.keepQ 1 0 (le_refl _) (le_refl _) (VCx.freezeCellAt (i:=0) (j:=1) (size:=5) (es:=(L.set k ((i,r.1.2.1,w),u,d)).map aF) (ap ah ag hC ak (F6 n (L.map aF) i w (fE L i) r.1.2.1 u d k _) ?_))
  refine ⟨⟨rfl,rfl,rfl⟩,aA (decide_eq_false (by omega)) ⟨Jc n L (by omega) hl,Dp rfl rfl hz (by rw [length_map];exact hk),Fm (inf:=(prog.info? 29).getD default) (cs:=(L.map aF).flatten) underlying29 rfl (by kernel_rfl) rfl rfl (vV L k r hs),Dp rfl rfl hz (by rw [length_map];exact hk),?_,1,0,(L.map aF).length,_,rfl,rfl,?_,?_⟩⟩
  ·obtain ⟨inf,i1,i2,_,_⟩:=jn
   exact lf (cs:=(L.map aF).flatten) (new:=eH i r.1.2.1 w u d) (off:=k*5) (id:=1) i1 rfl rfl rfl (by rw [i2];rfl) (by rw [hfl];show k*5+5≤_;omega) rfl (zero_le _)
  ·have e5:aV (L.map aF).flatten (k*5) (eH i r.1.2.1 w u d)=((L.set k ((i,r.1.2.1,w),u,d)).map aF).flatten:=hset
   rw [e5]
   have hl2:(L.map aF).length=((L.set k ((i,r.1.2.1,w),u,d)).map aF).length:=by simp
   rw [hl2]
   exact kp rfl (z8 _)
  ·refine ⟨L.set k ((i,r.1.2.1,w),u,d),⟨by unfold j9;simpa using hl,0,rfl⟩,?_⟩
   simp only [VT.kill,VT.keep,set_cons_succ,set_cons_zero,take_succ_cons,take_zero,map_cons,map_nil,VO.ren,av,TV.ren,lv,Tok.ren]
   rfl
theorem Dq (L:List Mb)(hl:L.length≤1000)(i:Int):∀ro ys T K,Di n (L.map aF) i (aF (ia L i)) ro ys T K→VCx prog ae ro yv ys T K:=by
 rintro ro ys T K ⟨⟨rfl,rfl,ho⟩,hk⟩
 refine (BQ n (ys1:= [.ptr 0 0,.val (.int .i64 i)]) (k:=0) rfl (R:=λx L'=>x=.agg (aF (ia L i))∧L'=L) (λx L' h _ _=>by rw [h.1];rfl) ((Jb n L hl i).mono ?_) ho).mono ?_
 ·rintro x T' ⟨rfl,rfl⟩;exact ⟨L,⟨rfl,rfl⟩,rfl⟩
 ·rintro x T' ⟨L',⟨rfl,rfl⟩,rfl⟩
  rw [fA ho];exact hk
def Aa (L':List (List TV)):Prop:=∃M:List Mb,j9 M∧L'=M.map aF
theorem Dr (L:List Mb)(hl:j9 L)(i w:Int)(u d:Bool):∀ro ys T K,Dj n (L.map aF) i w u d Aa ro ys T K→VCx prog ae ro yw ys T K:=by
 rintro ro ys T K ⟨⟨rfl,rfl,ho⟩,hk⟩
 refine (BQ n (ys1:= [.ptr 0 0,.val (.int .i64 i),.val (.bool u),.val (.bool d),.val (.int .i64 w)]) (k:=0) rfl (R:=λx L'=>j9 L'∧∃e,x=.val (.int .i64 e)) (λx L' h _ _=>by obtain ⟨_,e,rfl⟩:=h;rfl) (Jd n L hl i w u d) ho).mono ?_
 rintro x T' ⟨L',⟨h1,e,rfl⟩,rfl⟩
 exact hk e _ ⟨L',h1,rfl⟩
def Ab (n:Int):TV→VT→Prop:=λx T'=>∃L',(j9 L'∧∃e,x=.val (.int .i64 e))∧T'=b8 n (L'.map aF) []
theorem uL {n:Int}{L':List (List TV)}{l:List VO}{e:Int}(h:Aa L'):Ab n (.val (.int .i64 e)) (VT.keep ⟨jS n L'::l,[]⟩ 1 0):=by
 obtain ⟨M,h1,rfl⟩:=h
 exact ⟨M,⟨h1,e,rfl⟩,jp n M _⟩
theorem Je (L:List Mb)(hl:j9 L)(i:Int)(q:Bool):VCx prog ae 0 Dg [.ptr 0 0,.val (.int .i64 i),.val (.bool q)] (b8 n (L.map aF) []) (Ab n):=by
 have hC:aQ prog ae (az [(yv,Di n (L.map aF) i (aF (ia L i))),(yw,Dj n (L.map aF) i (ia L i).1.2.2 q (ia L i).2.2 Aa)]):=aE λp hp=>by
  simp only [mem_cons,not_mem_nil,or_false] at hp
  rcases hp with rfl | rfl
  ·exact Dq n L (by unfold j9 at hl;omega) i
  ·exact Dr n L hl i _ _ _
 refine VCx.keepQ 1 0 (le_refl _) (le_refl _) (ap ah ag hC ak (KU n (L.map aF) i (ia L i).1.1 (ia L i).1.2.1 (ia L i).1.2.2 q (ia L i).2.1 (ia L i).2.2 Aa _) ?_)
 exact ⟨⟨rfl,rfl,rfl⟩,⟨rfl,rfl,rfl⟩,λe L' h=>uL h⟩
theorem Jf (L:List Mb)(hl:j9 L)(i:Int)(q:Bool):VCx prog ae 0 Dh [.ptr 0 0,.val (.int .i64 i),.val (.bool q)] (b8 n (L.map aF) []) (Ab n):=by
 have hC:aQ prog ae (az [(yv,Di n (L.map aF) i (aF (ia L i))),(yw,Dj n (L.map aF) i (ia L i).1.2.2 (ia L i).2.1 q Aa)]):=aE λp hp=>by
  simp only [mem_cons,not_mem_nil,or_false] at hp
  rcases hp with rfl | rfl
  ·exact Dq n L (by unfold j9 at hl;omega) i
  ·exact Dr n L hl i _ _ _
 refine VCx.keepQ 1 0 (le_refl _) (le_refl _) (ap ah ag hC ak (KV n (L.map aF) i (ia L i).1.1 (ia L i).1.2.1 (ia L i).1.2.2 q (ia L i).2.1 (ia L i).2.2 Aa _) ?_)
 exact ⟨⟨rfl,rfl,rfl⟩,⟨rfl,rfl,rfl⟩,λe L' h=>uL h⟩
def kB:List Mb→Int→Nat
 |[],_=>0
 |a::L,i=>if a.1.1<i then kB L i+1 else 0
theorem wE:∀(L:List Mb) (i:Int),kB L i≤L.length
 |[],_=>le_refl _
 |a::L,i=>by
  have:=wE L i
  unfold kB
  split<;>simp<;>omega
theorem F7:∀{L:List Mb} {i:Int} {j:Nat} {r:Mb},L[j]?=some r→j≤kB L i→(r.1.1<i ↔ j<kB L i)
 |[],_,_,_,h,_=>by simp at h
 |a::L,i,0,r,h,_=>by
  simp at h;subst h
  unfold kB
  split<;>simp_all
 |a::L,i,j+1,r,h,hj=>by
  unfold kB at hj ⊢
  split at hj
  ·rename_i ha
   rw [if_pos ha]
   have:=F7 (L:=L) (i:=i) (j:=j) (by simpa using h) (by omega)
   rw [this];omega
  ·omega
theorem Ho (L:List Mb)(hl:L.length≤1000)(i a c:Int):ek prog ae (LN n (L.map aF) i a c (kB L i) (ax prog pC 1)):=cq λp hp=>by
 obtain rfl:=mem_singleton.1 hp
 refine dA λK hK=> ?_
 refine fv (f:=pC) (id:=1) (by kernel_rfl) 88 Dk (λj=>L.length-j) (λj:Nat=>zZ j) (λ_=>b8 n (L.map aF) [.cells (gA i a c)]) (λj=>j≤kB L i) 2 0 (λ_ _=>⟨le_refl _,le_refl _⟩)
  (λe vs T=>e=.normal∧vs=zZ (kB L i)∧T=b8 n (L.map aF) [.cells (gA i a c)]) (λj hj=> ?_) 0 (zero_le _) K (λe vs T hq=> ?_)
 ·have hkl:=wE L i
  by_cases hlt:j<L.length
  ·have hs:L[j]?=some L[j]:=getElem?_eq_getElem hlt
   generalize L[j]=r at hs
   have hw:=fV j (by omega)
   have hat:=F7 hs hj
   refine cn ah ag aw ak (Dm n (L.map aF) i a c r.1.1 r.1.2.1 r.1.2.2 r.2.1 r.2.2 j _) ?_
   refine aZ (decide_eq_true (by rw [length_map];omega)) ⟨rW rfl rfl (natCast_nonneg _) (by simp only [toNat_natCast];rw [getElem?_map,hs];rfl),?_⟩
   by_cases he:r.1.1<i
   ·exact aZ (decide_eq_true he) ⟨rfl,rfl,j+1,hat.1 he,by simp only;omega,.inl ⟨rfl,by simp only [zZ,hw]⟩⟩
   ·have:j=kB L i:=by
     have:¬j<kB L i:=λh=>he (hat.2 h)
     omega
    subst this
    exact aA (decide_eq_false he) ⟨rfl,rfl,rfl,rfl,rfl⟩
  ·obtain rfl:j=L.length:=by omega
   have:L.length=kB L i:=by omega
   refine cn ah ag aw ak (Dm n (L.map aF) i a c 0 0 0 false false L.length _) ?_
   exact aA (decide_eq_false (by rw [length_map];omega)) ⟨rfl,rfl,rfl,by rw [←this];rfl,rfl⟩
 ·obtain ⟨rfl,rfl,rfl⟩:=hq
  exact hK
theorem Hp (L':List Mb)(tok:Tok)(l:List VO)(tl:List (Nat × Nat × Bool))(ht:tok.ren (ai 1) (ai 0)=.none):VT.keep ⟨.cells [.val (.int .i64 n),.vec 5 (L'.map aF) tok]::l,tl⟩ 1 0=b8 n (L'.map aF) []:=by
 simp only [VT.keep,take_succ_cons,take_zero,map_cons,map_nil,VO.ren,av,TV.ren,lv,ht,b8,jS]
theorem Jg (L:List Mb)(hl:j9 L)(b:Bk):VCx prog ae 0 pC [.ptr 0 0,.agg (bd b)] (b8 n (L.map aF) []) (Ab n):=by
 obtain ⟨i,a,c⟩:=b
 have hl':L.length≤16:=hl
 have hC:aQ prog ae (az [(lr,yy n (L.map aF) i (fE L i))]):=aE λp hp=>by obtain rfl:=mem_singleton.1 hp;exact yA n L (by omega) i
 refine VCx.keepQ 1 0 (le_refl _) (le_refl _) (ap ah ag hC (Ho n L (by omega) i a c) (KW n (L.map aF) i a c (fE L i) (kB L i) _) ?_)
 have same:∀(e:Int) (l:List VO),Ab n (.val (.int .i64 e)) (VT.keep ⟨jS n (L.map aF)::l,[]⟩ 1 0):=λe l=>uL ⟨L,hl,rfl⟩
 have hkl:kB L i≤(L.map aF).length:=by rw [length_map];exact wE L i
 have b1:((L.map aF).take (kB L i)).length≤16:=by rw [length_take,length_map];omega
 have b2:((L.map aF).drop (kB L i)).length≤16:=by rw [List.length_drop,length_map];omega
 refine aL (λ_=>same _ _) λ_=>aL (λ_=>same _ _) λ_=>aL (λ_=>same _ _) λ_=>aL (λ_=>same _ _) λ_=>aL (λ_=>same _ _) λ_=>⟨⟨rfl,rfl,rfl⟩,aL (λ_=>same _ _) λ_=>aL (λ_=>same _ _) λh16=>⟨rfl,⟨rfl,rfl,rfl,trivial,rfl,rfl,rfl⟩,BO rfl rfl (natCast_nonneg _) (toNat_natCast _) hkl,BP rfl rfl (natCast_nonneg _) (toNat_natCast _) hkl,?_,⟨rfl,rfl,rfl,trivial⟩,?_,⟨rfl,rfl,rfl,trivial⟩,?_,?_⟩⟩
 ·have o:=rX (T:=b8 n (L.map aF) [.cells (gA i a c)]) (T1:={b8 n (L.map aF) [.cells (gA i a c)] with tails:= [(0,5,false)]}) (s:=.tmp 67) (x:=.tmp 73) (l:= [(67,.vec 5 [] .full),(73,.vec 5 ((L.map aF).take (kB L i)) .none)]) (es:= []) (es2:=(L.map aF).take (kB L i)) (k:=0) (n:=0) (bn:=false) rfl rfl (by simp only [length_nil];omega)
  simp only [zero_add] at o
  exact o
 ·exact rX (T:={b8 n (L.map aF) [.cells (gA i a c)] with tails:= [(((L.map aF).take (kB L i)).length,5,false)]}) (T1:={b8 n (L.map aF) [.cells (gA i a c)] with tails:= [(((L.map aF).take (kB L i)).length,5,false)]}) (es:=(L.map aF).take (kB L i)) (es2:= [eH i a c false false]) (k:=0) (n:=((L.map aF).take (kB L i)).length) (bn:=false) (by simp [aq,dU,cw,b8]) rfl (by simp only [length_cons,length_nil];omega)
 ·exact rX (T:={b8 n (L.map aF) [.cells (gA i a c)] with tails:= [(((L.map aF).take (kB L i)).length+1,5,false)]}) (T1:={b8 n (L.map aF) [.cells (gA i a c)] with tails:= [(((L.map aF).take (kB L i)).length+1,5,false)]}) (es:=(L.map aF).take (kB L i)++ [eH i a c false false]) (es2:=(L.map aF).drop (kB L i)) (k:=0) (n:=((L.map aF).take (kB L i)).length+1) (bn:=false) (by simp [aq,dU,cw,b8]) rfl (by simp only [length_append,length_cons,length_nil];omega)
 ·have hm:(L.map aF).take (kB L i)++ [eH i a c false false]++(L.map aF).drop (kB L i)=(L.take (kB L i)++ [((i,a,c),false,false)]++L.drop (kB L i)).map aF:=by
   simp only [map_append,List.map_take,List.map_drop,map_cons,map_nil]
   rfl
  simp at h16
  refine ⟨L.take (kB L i)++ [((i,a,c),false,false)]++L.drop (kB L i),⟨?_,0,rfl⟩,?_⟩
  ·unfold j9
   simp only [length_append,length_take,List.length_drop,length_cons,length_nil]
   have:=wE L i
   omega
  ·rw [hm]
   exact Hp n _ _ _ _ rfl
end
end
end Go.Proofs.YtgboehkdijjnkaaGreatDoor