/-Part 4 of the proof of balanceSticksCard_holds:Vfin,Vlp,ValB2 ... No condition. -/
import Derived.Sort.LoopGhostIn
import Derived.RangeFuncNested
import Derived.ProofKit
import Derived.OpenShut
import Derived.Lib.SmallJoins
import Derived.Deep.Slices
import Derived.Shelf.SlIterI.Nil
import Derived.Shelf.SortM.Plain
import Derived.Shelf.SortM.SortNone
import Derived.Ground.GgzProg
import Derived.Ground.SlgmProg
import Derived.Test.YtgboehkdijjnkaaGreatDoorProg
import Derived.Test.YtgboehkdijjnkaaGreatDoorBy1
import Derived.Test.YtgboehkdijjnkaaGreatDoorBy2
import Derived.Test.YtgboehkdijjnkaaGreatDoorBy3
set_option maxRecDepth 100000
namespace Go.Proofs.YtgboehkdijjnkaaGreatDoor
open Go.RowKit
open _root_.Array (getElem?_push replicate size_push)
open Go.BinOp (eql)
open _root_.Bool (and_eq_true)
open Go.Calls (mono)
open Go.DataW (Trod trod)
open Go.Fence (wide)
open Go.Frame (atR)
open _root_.Function (comp)
open Go.IntKind (i64 u32 wrap)
open _root_.List (find?_cons find?_eq_none find?_some flatten_cons getElem?_eq_getElem getElem?_map getElem?_set length length_cons length_map length_nil length_take map_congr_left map_cons map_id map_map map_nil mem_append mem_cons mem_cons_of_mem mem_cons_self mem_map mem_map_of_mem mem_singleton nodup_append nodup_cons nodup_nil take_length take_succ_cons take_zero zipWith zipWith_cons_cons)
open _root_.Nat (beq beq_refl ble eq_of_beq_eq_true le_of_ble_eq_true le_refl le_trans lt_or_ge min_le_right not_lt_zero zero_add zero_le)
open _root_.Option (map_eq_some_iff map_some)
open Go.Region (wanted)
open Go.Proofs.Tryz (func108 func95 isAgg0 isAgg158 isAgg25 isAgg3 isAgg4 isAgg52 prog sizeOf0 sizeOf158 sizeOf25 sizeOf3 sizeOf4 underlying0 underlying25 underlying3 underlying4 zeroValue0 zeroValue158 zeroValue25 zeroValue3 zeroValue4)
open Go.Value (okWide)
open Go.World (alloc_heap_new cell? putObj_size)
section
open Go.RowKit
section
variable {P:Program}{G:aD}{F:iR}
theorem Fix.of_min {ro:Nat}{g:Gh}{T T':VT}{w w':World}(h:Fix (min ro T.objs.length) g T w T' w'):Fix ro g T w T' w':=
 ⟨h.len,λi hi hl=>h.same i (by omega) hl,λi o b hi ho=>h.heap i o b (by have:=(List.getElem?_eq_some_iff.1 ho).1;omega) ho⟩
theorem xA {ops:Array Oper}{p:List (Oper × PK)}(h:t8 P ops=some p):jd P ops=some p:=by
 unfold t8 at h
 split at h
 ·rename_i q hq
  cases hb:(A4 q&&(je P ops).isSome) with
  |true=>rw [hb] at h;cases h
  |false=>rw [hb] at h;rw [hq];exact h
 ·cases h
theorem xB {ops:Array Oper}{p:List (Oper × PK)}(h:ub P F ops=some p):jd P ops=some p:=by
 unfold ub at h
 cases hb:(F ⟨some 999999,.move (.tmp 0),0, "",#[],none⟩ [] ⟨[],[]⟩).isSome with
 |true=>rw [hb] at h;exact h
 |false=>
  rw [hb,cond_false] at h
  cases hs:ble ops.size 12 with
  |true=>rw [hs] at h;exact xA h
  |false=>rw [hs] at h;cases h
theorem CE {call:fa}{rnd:gl}(hc:dV P G call)(hrr:fb P G rnd)(hm:P.follows .mixedOrders=true){ro id:Nat}{ops:Array Oper}{σ:List TV}{T:VT}{D:List Nat}{Q:KX}(hnd:∀(j:Nat) o,ops[j]?=some o→bI o.op=true)
  (h:xm P G F call rnd (min ro T.objs.length) ops σ T λσ T=>Q .normal σ T D) {r:Option Nat} {g:Gh} {w:World} {a:Act} (rw0:RW g T w) (hG:GOk G g w) (hσ:VRs g w σ a.tmps.toList) (hd:a.defers=D.map (mk g)) (hD:∀id∈D,(g.obj id).isSome=true):
  (Code.region id ops true).wpIn (bT r) 0 P (λe a' w'=>∃g' σ' T' D',Q e σ' T' D'∧Evo g w g' w'∧RW g' T' w'∧VRs g' w' σ' a'.tmps.toList∧a'.defers=D'.map (mk g')∧(∀id∈D',(g'.obj id).isSome=true)∧Fix ro g T w T' w') a w:=by
 unfold xm at h
 split at h
 ·rename_i t2 t1 l hl
  obtain rfl:ops=(l.reverse.toArray.push t1).push t2:=by
   have:=congrArg List.reverse hl
   rw [List.reverse_reverse] at this
   apply Array.toList_inj.1
   rw [this]
   simp
  generalize l.reverse.toArray=zs at*
  cases hb:(jv zs t1&&jv (zs.push t1) t2&&cU (zs.push t1)&&cU zs&&kX zs) with
  |false=>rw [hb] at h;exact h.elim
  |true=>
   rw [hb] at h
   simp only [cond_true] at h
   simp only [and_eq_true] at hb
   obtain ⟨⟨⟨⟨h1,h2⟩,f1⟩,f0'⟩,ho⟩:=hb
   have g1:=nJ h1
   have g2:=nJ h2
   have st:VStat P zs []:=⟨f0',ho,rfl,rfl⟩
   have e0:=Evo.of_gr rw0 (Gr.refl w).drew
   have f0:Fix (min ro T.objs.length) g T w T w.drew:=Fix.of_same (Same.of_gr rw0 (Gr.refl w).drew) take_length
   have r1:RW g T w.drew:=rw0.drew
   have hw:∀(t:Oper) (zz:Array Oper) (tm:Array Value),t.guard.isNone=true→wanted t (yielded zz tm)=true:=λt zz tm hg=>by
    unfold wanted
    rw [Option.isNone_iff_eq_none.1 hg]
   have key:=G3 (r:=r) hc hrr st (λj o hj=>hnd j o (by
     have hlt:=(Array.getElem?_eq_some_iff.1 hj).1
     rw [getElem?_push,if_neg (by simp;omega),getElem?_push,if_neg (by omega)];exact hj)) (ro:=min ro T.objs.length) (K:=λσ1 T1=>gm P G F call rnd (min ro T.objs.length) t1 σ1 T1 λσ1 T1=>gm P G F call rnd (min ro T.objs.length) t2 σ1 T1 λσ T=>Q .normal σ T D) (gs:=g) (Ts:=T) (ws:=w) (ds:=a.defers)
    (QQ:=λa' w'=>wpOpIn (bT r) 0 P (zs.push t1) (b9 λa' w'=>wpOpIn (bT r) 0 P ((zs.push t1).push t2) (b9 λa' w'=>∃g' σ' T' D',Q .normal σ' T' D'∧Evo g w g' w'∧RW g' T' w'∧VRs g' w' σ' a'.tmps.toList∧a'.defers=D'.map (mk g')∧(∀id∈D',(g'.obj id).isSome=true)∧Fix ro g T w T' w') (zs.push t1).size (λa' w'=>∃g' σ' T' D',Q .normal σ' T' D'∧Evo g w g' w'∧RW g' T' w'∧VRs g' w' σ' a'.tmps.toList∧a'.defers=D'.map (mk g')∧(∀id∈D',(g'.obj id).isSome=true)∧Fix ro g T w T' w') a' w') zs.size
     (λa' w'=>wpOpIn (bT r) 0 P ((zs.push t1).push t2) (b9 λa' w'=>∃g' σ' T' D',Q .normal σ' T' D'∧Evo g w g' w'∧RW g' T' w'∧VRs g' w' σ' a'.tmps.toList∧a'.defers=D'.map (mk g')∧(∀id∈D',(g'.obj id).isSome=true)∧Fix ro g T w T' w') (zs.push t1).size (λa' w'=>∃g' σ' T' D',Q .normal σ' T' D'∧Evo g w g' w'∧RW g' T' w'∧VRs g' w' σ' a'.tmps.toList∧a'.defers=D'.map (mk g')∧(∀id∈D',(g'.obj id).isSome=true)∧Fix ro g T w T' w') a' w') a' w')
    (λσ' T' g' w' a' hk e r' hσ' hd' hx=>by
     unfold wpOpIn
     simp only [getElem?_push,if_true,hw t1 _ _ g1]
     refine fO hc hrr hk r g' w' a' _ _ r' (hG.mono e) hσ' λσ'' T'' g'' w'' a'' _ hk' e' r'' hσ'' hd'' hx'=> ?_
     rw [if_pos (hw t2 _ _ g2)]
     exact fO hc hrr hk' r g'' w'' a'' _ _ r'' (hG.mono (e.trans e')) hσ'' λσ3 T3 g3 w3 a3 _ hk3 e3 r3 hσ3 hd3 hx3=>⟨g3,σ3,T3,D,hk3,(e.trans e').trans e3,r3,hσ3,by rw [hd3,hd'',hd',hd,jF ((e.trans e').trans e3) hD],eB ((e.trans e').trans e3) hD,((hx.trans e hx').trans (e.trans e') hx3).of_min⟩)
    zs.size zs.size (replicate zs.size false) T [] σ T (replicate zs.size false) g w.drew a (λ_=>none) h (VInv.start (hσ.mono e0) r1) (hG.mono e0) rfl e0 f0 (min_le_right _ _) (by
     unfold iU
     rw [Array.toList_replicate]
     exact le_trans List.count_le_length (by simp))
   have key2:=nK st.flow (o6 h1) _ _ _ _ (by simp) (Closed.start _ _) key
   have key3:=nK f1 (o6 h2) _ _ _ _ (by simp) (by rw [←gS];exact Closed.start _ _) key2
   refine wpIn_mono (wpIn_region_any hm (by rw [size_push,size_push,gS,gS];exact key3)) ?_
   intro e a' w' hq
   cases e<;>first | exact hq | exact hq.elim
 ·exact h.elim
theorem EI {call:fa}{rnd:gl}(hc:dV P G call)(hrr:fb P G rnd)(hm:P.follows .mixedOrders=true){rd:Option Nat}{ro id:Nat}{ops:Array Oper}{σ:List TV}{T:VT}{D:List Nat}{Q:KX}
  (h:A5 P G F call rnd ro ops σ T λσ T=>Q .normal σ T D):VWx P G rd ro (.region id ops true) σ T D Q:=by
 intro r g w a rw0 hG hσ hd hD hrd
 unfold A5 at h
 cases hb:xi ops with
 |false=>rw [hb] at h;exact h.elim
 |true=>
  rw [hb] at h
  simp only [cond_true] at h
  have hnd:∀(j:Nat) o,ops[j]?=some o→bI o.op=true:=λj o ho=>by
   obtain ⟨hlt,he⟩:=Array.getElem?_eq_some_iff.1 ho
   exact List.all_eq_true.1 hb o (by rw [←he];exact Array.mem_toList_iff.2 (Array.getElem_mem hlt))
  have old:∀p,jd P ops=some p→dy P G F call rnd ro ops T false p σ T (λσ T=>Q .normal σ T D)→(Code.region id ops true).wpIn (bT r) 0 P (λe a' w'=>∃g' σ' T' D',Q e σ' T' D'∧Evo g w g' w'∧RW g' T' w'∧VRs g' w' σ' a'.tmps.toList∧a'.defers=D'.map (mk g')∧(∀id∈D',(g'.obj id).isSome=true)∧Fix ro g T w T' w') a w:=λp hp h=>by
   unfold jd at hp
   split at hp
   ·rename_i pl hpl
    cases hk:(Region.noSelect ops&&beq pl.length ops.size&&kE ops pl (replicate ops.size false)) with
    |false=>rw [hk] at hp;cases hp
    |true=>
     rw [hk] at hp
     simp only [and_eq_true] at hk
     obtain ⟨⟨hns,hlen⟩,hchk⟩:=hk
     have hlen:=eq_of_beq_eq_true hlen
     injection hp with hp;subst hp
     have e0:=Evo.of_gr rw0 (Gr.refl w).drew
     have f0:Fix (min ro T.objs.length) g T w T w.drew:=Fix.of_same (Same.of_gr rw0 (Gr.refl w).drew) take_length
     have r1:RW g T w.drew:=rw0.drew
     have key:=fu (r:=r) hc hrr hnd (Region.noSelect_spec hns) (Nat.min_le_left ro T.objs.length) (K:=λσ T=>Q .normal σ T D) (gs:=g) (Ts:=T) (ws:=w) (ds:=a.defers)
      (QQ:=λa' w'=>∃g' σ' T' D',Q .normal σ' T' D'∧Evo g w g' w'∧RW g' T' w'∧VRs g' w' σ' a'.tmps.toList∧a'.defers=D'.map (mk g')∧(∀id∈D',(g'.obj id).isSome=true)∧Fix ro g T w T' w')
      (λσ' T' g' w' a' hk e r' hσ' hd' hx=>⟨g',σ',T',D,hk,e,r',hσ',by rw [hd',hd,jF e hD],eB e hD,hx.of_min⟩)
      pl (replicate ops.size false) T false σ T hchk h g w.drew g w.drew a r1 (hG.mono e0) r1 (hσ.mono e0) rfl (Evo.refl _ _) (Same.refl _ _ _) take_length (λ_=>⟨rfl,rfl,rfl⟩) e0 f0 (min_le_right _ _)
      (λk o _ hk=>absurd hk (by
       rw [Array.getD_eq_getD_getElem?,Array.getElem?_replicate]
       split<;>simp)) (by simp)
     rw [hlen] at key
     refine wpIn_mono (wpIn_region_any hm (sN _ _ _ _ key)) ?_
     intro e a' w' hq
     cases e<;>first | exact hq | exact hq.elim
   ·cases hp
  split at h
  ·rename_i p hp
   exact old p (xB hp) h
  ·split at h
   ·rename_i p hp
    obtain ⟨hns,st,hchk⟩:=qS hp
    have e0:=Evo.of_gr rw0 (Gr.refl w).drew
    have f0:Fix (min ro T.objs.length) g T w T w.drew:=Fix.of_same (Same.of_gr rw0 (Gr.refl w).drew) take_length
    have r1:RW g T w.drew:=rw0.drew
    have key:=vB (r:=r) hc hrr st (K:=λσ T=>Q .normal σ T D) (gs:=g) (Ts:=T) (ws:=w) (ds:=a.defers)
     (QQ:=λa' w'=>∃g' σ' T' D',Q .normal σ' T' D'∧Evo g w g' w'∧RW g' T' w'∧VRs g' w' σ' a'.tmps.toList∧a'.defers=D'.map (mk g')∧(∀id∈D',(g'.obj id).isSome=true)∧Fix ro g T w T' w')
     (λσ' T' g' w' a' hk e r' hσ' hd' hx=>⟨g',σ',T',D,hk,e,r',hσ',by rw [hd',hd,jF e hD],eB e hD,hx.of_min⟩)
     ops.size p (replicate ops.size false) T [] σ T (replicate ops.size false) g w.drew a (λ_=>none) hchk h (VInv.start (hσ.mono e0) r1) (hG.mono e0) rfl e0 f0 (min_le_right _ _) (by
      unfold iU
      rw [Array.toList_replicate]
      exact le_trans List.count_le_length (by simp))
    refine wpIn_mono (wpIn_region_any hm key) ?_
    intro e a' w' hq
    cases e<;>first | exact hq | exact hq.elim
   ·split at h
    ·rename_i p hp
     exact old p hp h
    ·split at h
     ·rename_i t p hl hp
      obtain ⟨ys,hys⟩:=List.getLast?_eq_some_iff.1 hl
      obtain rfl:ops=ys.toArray.push t:=by
       have:=congrArg List.toArray hys
       simpa using this
      have hcut:(ys.toArray.push t).toList.dropLast.toArray=ys.toArray:=by simp
      rw [hcut] at hp h
      cases hb2:jv ys.toArray t with
      |false=>rw [hb2] at h;exact h.elim
      |true=>
       rw [hb2] at h
       simp only [cond_true] at h
       have hgd:=nJ hb2
       obtain ⟨hns,st,hchk⟩:=qS hp
       have e0:=Evo.of_gr rw0 (Gr.refl w).drew
       have f0:Fix (min ro T.objs.length) g T w T w.drew:=Fix.of_same (Same.of_gr rw0 (Gr.refl w).drew) take_length
       have r1:RW g T w.drew:=rw0.drew
       have key:=vB (r:=r) hc hrr st (K:=λσ' T'=>gm P G F call rnd (min ro T.objs.length) t σ' T' λσ T=>Q .normal σ T D) (gs:=g) (Ts:=T) (ws:=w) (ds:=a.defers)
        (QQ:=λa' w'=>wpOpIn (bT r) 0 P (ys.toArray.push t) (b9 λa' w'=>∃g' σ' T' D',Q .normal σ' T' D'∧Evo g w g' w'∧RW g' T' w'∧VRs g' w' σ' a'.tmps.toList∧a'.defers=D'.map (mk g')∧(∀id∈D',(g'.obj id).isSome=true)∧Fix ro g T w T' w') ys.toArray.size
         (λa' w'=>∃g' σ' T' D',Q .normal σ' T' D'∧Evo g w g' w'∧RW g' T' w'∧VRs g' w' σ' a'.tmps.toList∧a'.defers=D'.map (mk g')∧(∀id∈D',(g'.obj id).isSome=true)∧Fix ro g T w T' w') a' w')
        (λσ' T' g' w' a' hk e r' hσ' hd' hx=>by
         unfold wpOpIn
         have hw:wanted t (yielded (ys.toArray.push t) a'.tmps)=true:=by
          unfold wanted
          rw [Option.isNone_iff_eq_none.1 hgd]
         simp only [getElem?_push,if_true,hw]
         exact fO hc hrr hk r g' w' a' _ _ r' (hG.mono e) hσ' λσ'' T'' g'' w'' a'' _ hk' e' r'' hσ'' hd'' hx'=>⟨g'',σ'',T'',D,hk',e.trans e',r'',hσ'',by rw [hd'',hd',hd,jF (e.trans e') hD],eB (e.trans e') hD,(hx.trans e hx').of_min⟩)
        ys.toArray.size p (replicate ys.toArray.size false) T [] σ T (replicate ys.toArray.size false) g w.drew a (λ_=>none) hchk h (VInv.start (hσ.mono e0) r1) (hG.mono e0) rfl e0 f0 (min_le_right _ _) (by
         unfold iU
         rw [Array.toList_replicate]
         exact le_trans List.count_le_length (by simp))
       have key2:=nK st.flow (o6 hb2) _ _ _ _ (by simp) (Closed.start _ _) key
       refine wpIn_mono (wpIn_region_any hm (by rw [size_push,gS];exact key2)) ?_
       intro e a' w' hq
       cases e<;>first | exact hq | exact hq.elim
     ·exact CE hc hrr hm hnd h rw0 hG hσ hd hD
theorem VWx.here {rd:Option Nat}{ro:Nat}{c:Code}{σ:List TV}{T:VT}{D:List Nat}{Q:KX}{e:Exit}(h:Q e σ T D)(k:∀(F:Fence) (a:Act) w,∀R:Exit→Act→World→Prop,R e a w→c.wpIn F 0 P R a w):VWx P G rd ro c σ T D Q:=
 λr g w a rw0 hG hσ hd hD _=>k _ a w _ ⟨g,σ,T,D,h,Evo.refl g w,rw0,hσ,hd,hD,Fix.refl _ _ _ _⟩
theorem VWx.seq {rd:Option Nat}{ro:Nat}{x y:Code}{σ:List TV}{T:VT}{D:List Nat}{Q:KX}(h:VWx P G rd ro x σ T D (nE (λσ T D=>VWx P G rd ro y σ T D Q) Q)):VWx P G rd ro (.seq x y) σ T D Q:=by
 intro r g w a rw0 hG hσ hd hD hrd
 refine wpIn_seq (wpIn_mono (h r g w a rw0 hG hσ hd hD hrd) ?_)
 rintro e a' w' ⟨g',σ',T',D',hq,e1,r',hσ',hd',hD',hx⟩
 cases e<;>first
  |exact ⟨g',σ',T',D',hq,e1,r',hσ',hd',hD',hx⟩
  |exact wpIn_mono (hq r g' w' a' r' (hG.mono e1) hσ' hd' hD' (xd e1 hrd)) λe a'' w'' ⟨g'',σ'',T'',D'',hq',e2,r2,s2,d2,dd2,x2⟩=>⟨g'',σ'',T'',D'',hq',e1.trans e2,r2,s2,d2,dd2,hx.trans e1 x2⟩
theorem VWx.block {rd:Option Nat}{ro id:Nat}{c:Code}{σ:List TV}{T:VT}{D:List Nat}{Q:KX}(h:VWx P G rd ro c σ T D (oW id Q)):VWx P G rd ro (.block id c) σ T D Q:=by
 intro r g w a rw0 hG hσ hd hD hrd
 refine wpIn_block (wpIn_mono (h r g w a rw0 hG hσ hd hD hrd) ?_)
 rintro e a' w' ⟨g',σ',T',D',hq,h⟩
 cases e with
 |exit id'=>
  simp only [Exit.inBlock]
  simp only [oW] at hq
  cases hb:beq id' id with
  |true=>
   rw [hb] at hq
   rw [if_pos (eq_of_beq_eq_true hb)];exact ⟨g',σ',T',D',hq,h⟩
  |false=>
   rw [hb] at hq
   rw [if_neg (Nat.ne_of_beq_eq_false hb)];exact ⟨g',σ',T',D',hq,h⟩
 |normal=>exact ⟨g',σ',T',D',hq,h⟩
 |goto l=>exact ⟨g',σ',T',D',hq,h⟩
 |ret=>exact ⟨g',σ',T',D',hq,h⟩
 |panic ch=>exact ⟨g',σ',T',D',hq,h⟩
 |outgrown=>exact ⟨g',σ',T',D',hq,h⟩
theorem VWx.cond {rd:Option Nat}{ro:Nat}{c:Operand}{x y:Code}{σ:List TV}{T:VT}{D:List Nat}{Q:KX}{b:Bool}(hc:aI G σ c=.val (.bool b))(ht:b=true→VWx P G rd ro x σ T D Q)(hf:b=false→VWx P G rd ro y σ T D Q):VWx P G rd ro (.cond c x y) σ T D Q:=by
 intro r g w a rw0 hG hσ hd hD hrd
 have h1:=dE hG hσ c
 rw [hc] at h1
 exact wpIn_cond_split h1.val_inv (λh=>ht h r g w a rw0 hG hσ hd hD hrd) (λh=>hf h r g w a rw0 hG hσ hd hD hrd)
section
variable {b:Frame}{a:Act}{k:List Item}{cs:List Frame}{w:World}
theorem fP {c:Code}:step P (lone (b.atR a (.code (.scope c)::k)) cs w)=.next (lone (b.atR a (.code c:: .inScope c::k)) cs w):=
 step_lone_go (by simp [stepG,stepG.exec,atR])
theorem wk {c:Code}:step P (lone (b.atR a (.inScope c::k)) cs w)=.next (lone (b.atR a k) cs w):=
 step_lone_go (by simp [stepG,stepG.exec,atR])
end
def H8 (Q:Exit→Act→World→Prop):Exit→Act→World→Prop
 | .goto _,_,_=>False
 |e,a,w=>Q e a w
theorem oA {F:Fence}{n:Nat}{Q:Exit→Act→World→Prop}{a:Act}{w:World}{c:Code}(h:c.wpIn F n P (H8 Q) a w):(Code.scope c).wpIn F n P Q a w:=by
 intro b k cs hro hb hr
 have h0:(lone (b.atR a (.code (.scope c)::k)) cs w).fenced P F:=fenced_calm hb hr rfl
 obtain ⟨e,a₁,w₁,hq,harr⟩:=h b (.inScope c::k) cs hro hb hr
 cases e with
 |normal=>exact ⟨.normal,a₁,w₁,hq,.head h0 fP (StepsIn.trans harr (.one (fenced_calm hb hr rfl) wk))⟩
 |exit id=>
  have hx:exitTo id (.inScope c::k)=exitTo id k:=by simp [exitTo]
  exact ⟨.exit id,a₁,w₁,hq,λk' hk=>.head h0 fP (harr.1 k' (by rw [hx];exact hk)),
   λhr' hk=>let ⟨k₁,h1,h2⟩:=harr.2 hr' (by rw [hx];exact hk);⟨k₁,h1,.head h0 fP h2⟩⟩
 |goto l=>exact hq.elim
 |ret=>exact ⟨_,a₁,w₁,hq,.of_steps (.one h0 fP) harr⟩
 |panic ch=>exact ⟨_,a₁,w₁,hq,.of_steps (.one h0 fP) harr⟩
 |outgrown=>exact ⟨_,a₁,w₁,hq,.of_steps (.one h0 fP) harr⟩
theorem VWx.scope {rd:Option Nat}{ro:Nat}{c:Code}{σ:List TV}{T:VT}{D:List Nat}{Q:KX}(h:VWx P G rd ro c σ T D (Cr Q)):VWx P G rd ro (.scope c) σ T D Q:=by
 intro r g w a rw0 hG hσ hd hD hrd
 refine oA (wpIn_mono (h r g w a rw0 hG hσ hd hD hrd) ?_)
 rintro e a' w' ⟨g',σ',T',D',hq,h⟩
 cases e<;>first
  |exact ⟨g',σ',T',D',hq,h⟩
  |exact hq.elim
theorem VWx.loop {rd:Option Nat}{ro:Nat}{c:Code}{σ:List TV}{T:VT}{D:List Nat}{Q:KX}(I:Nat→List TV→VT→List Nat→Prop)(n:Nat)(h0:I n σ T D)
  (round:∀n σ T D,I n σ T D→VWx P G rd ro c σ T D (nE (λσ' T' D'=>∃n',n' <n∧I n' σ' T' D') Q)):VWx P G rd ro (.loop c) σ T D Q:=by
 intro r g w a rw0 hG hσ hd hD hrd
 refine wpIn_loop_ghost (λn a' w'=>∃g' σ' T' D',I n σ' T' D'∧Evo g w g' w'∧RW g' T' w'∧VRs g' w' σ' a'.tmps.toList∧a'.defers=D'.map (mk g')∧(∀id∈D',(g'.obj id).isSome=true)∧Fix ro g T w T' w') n ⟨g,σ,T,D,h0,Evo.refl _ _,rw0,hσ,hd,hD,Fix.refl _ _ _ _⟩ ?_
 rintro m a' w' ⟨g',σ',T',D',hI,e1,r',hσ',hd',hD',hx⟩
 refine wpIn_mono (round m σ' T' D' hI r g' w' a' r' (hG.mono e1) hσ' hd' hD' (xd e1 hrd)) ?_
 rintro e a'' w'' ⟨g'',σ'',T'',D'',hq,e2,r2,s2,d2,dd2,x2⟩
 cases e<;>first
  |exact ⟨g'',σ'',T'',D'',hq,e1.trans e2,r2,s2,d2,dd2,hx.trans e1 x2⟩
  | (obtain ⟨n',hn,hI'⟩:=hq;exact ⟨n',hn,g'',σ'',T'',D'',hI',e1.trans e2,r2,s2,d2,dd2,hx.trans e1 x2⟩)
theorem iX {g:Gh}{T:VT}{w:World}(r:RW g T w){id b:Nat}{st:LoopState}{pend:Option Code}{σ:List TV}{ps:Array Tmp}{asg body:Code}(ho:T.objs[id]?=some (.loop st pend σ ps asg body))(hb:g.obj id=some b):
  ∃rec:Loop,w.heap[b]?=some (.loop rec)∧rec.state=st∧rec.pending=pend∧rec.params=ps∧rec.assign=asg∧rec.body=body∧VRs g w σ rec.tmps.toList∧
   ∀st' pend',RW g (T.setLoop id st' pend' σ ps asg body) (w.putObj b (.loop {rec with state:=st',pending:=pend' }))∧Evo g w g (w.putObj b (.loop {rec with state:=st',pending:=pend' }))∧
    ∀ro,ro≤id→Fix ro g T w (T.setLoop id st' pend' σ ps asg body) (w.putObj b (.loop {rec with state:=st',pending:=pend' })):=by
 obtain ⟨b',h1,h2,h3,h4⟩:=r.obj id _ ho rfl
 rw [hb] at h1;injection h1 with h1;subst h1
 obtain ⟨us,fn,db,h5,h6⟩:=h2
 have hlt:=(Array.getElem?_eq_some_iff.1 h5).1
 refine ⟨_,h5,rfl,rfl,rfl,rfl,rfl,h6,λst' pend'=> ?_⟩
 have hnew:=World.putObj_heap_same (w:=w) (o:=.loop {state:=st',pending:=pend',fn:=fn,tmps:=us.toArray,params:=ps,assign:=asg,body:=body,defers:=db}) hlt
 have hoth:∀c,c≠b→(w.putObj b (.loop {state:=st',pending:=pend',fn:=fn,tmps:=us.toArray,params:=ps,assign:=asg,body:=body,defers:=db})).heap[c]?=w.heap[c]?:=λc hc=>World.putObj_heap_other hc
 have key:∀(hE:∀w',w'=w.putObj b (.loop {state:=st',pending:=pend',fn:=fn,tmps:=us.toArray,params:=ps,assign:=asg,body:=body,defers:=db})→Evo g w g w'),RW g (T.setLoop id st' pend' σ ps asg body) (w.putObj b (.loop {state:=st',pending:=pend',fn:=fn,tmps:=us.toArray,params:=ps,assign:=asg,body:=body,defers:=db}))∧Evo g w g (w.putObj b (.loop {state:=st',pending:=pend',fn:=fn,tmps:=us.toArray,params:=ps,assign:=asg,body:=body,defers:=db})):=λhE=>
  r.setObj (o':=.loop st' pend' σ ps asg body) ho rfl hb ⟨rfl,rfl,rfl⟩ putObj_size hoth (by unfold bf;rw [hnew,h5]) λ_=>⟨us,fn,db,hnew,h6.mono (hE _ rfl)⟩
 have hE:=(r.setObj (o':=.gone) ho rfl hb (w':=w.putObj b (.loop {state:=st',pending:=pend',fn:=fn,tmps:=us.toArray,params:=ps,assign:=asg,body:=body,defers:=db})) ⟨rfl,rfl,rfl⟩ putObj_size hoth (by unfold bf;rw [hnew,h5]) λh=>by cases h).2
 obtain ⟨k1,k2⟩:=key λw' hw=>by rw [hw];exact hE
 exact ⟨k1,k2,λro hr=>cO r ho rfl hb hr hoth⟩
theorem o7 {fn:Func}{ro:Nat}{σ:List TV}{K:TV→VT→Prop}{tmps:Array Value}{g0:Gh}{T0:VT}{w0:World}:∀(D:List Nat) (T T':VT) (g:Gh) (w:World) (x:TV),na ro D T=some T'→kT P T' σ fn.results=some x→K x T'→
  RW g T w→VRs g w σ tmps.toList→Evo g0 w0 g w→Fix ro g0 T0 w0 T w→
  LeavesInM (bT none) 0 P fn tmps (λe w'=>∃v x g' T',e=.returned v∧K x T'∧Evo g0 w0 g' w'∧RW g' T' w'∧VR g' w' x v∧Fix ro g0 T0 w0 T' w') (D.map (mk g)) .returning w
 |[],T,T',g,w,x,h,hr,hk,r,hσ,e,hx=>by
  simp only [na] at h
  injection h with h;subst h
  obtain ⟨v,h1,h2⟩:=y8 (a:={tmps:=tmps,defers:= []}) r hσ hr
  exact ⟨v,h2,v,x,g,T,rfl,hk,e,r,h1,hx⟩
 |id::D,T,T',g,w,x,h,hr,hk,r,hσ,e,hx=>by
  simp only [na] at h
  split at h
  ·rename_i ho
   cases hb:ble ro id with
   |false=>rw [hb] at h;cases h
   |true=>
    rw [hb] at h
    simp only [cond_true] at h
    obtain ⟨b,h1,h2,h3,h4⟩:=r.obj id _ ho rfl
    have hlt:=(Array.getElem?_eq_some_iff.1 h2).1
    have hnew:=World.putObj_heap_same (w:=w) (o:=.deferred none) hlt
    have hoth:∀c,c≠b→(w.putObj b (.deferred none)).heap[c]?=w.heap[c]?:=λc hc=>World.putObj_heap_other hc
    obtain ⟨k1,k2⟩:=r.setObj (o':=.gone) ho rfl h1 (w':=w.putObj b (.deferred none)) ⟨rfl,rfl,rfl⟩ putObj_size hoth (by unfold bf;rw [hnew,show w.heap[b]?=_ from h2]) λh=>by cases h
    have k3:Fix ro g T w (T.kill id) (w.putObj b (.deferred none)):=cO r ho rfl h1 (le_of_ble_eq_true hb) hoth
    refine ⟨λh=>(by cases h),.inl ⟨b,w.putObj b (.deferred none),by simp [mk,h1],run_takeDeferred h2,?_⟩⟩
    exact o7 D (T.kill id) T' g _ x h hr hk k1 (hσ.mono k2) (e.trans k2) (hx.trans e k3)
  ·cases h
theorem vC {fn:Func}{ro:Nat}{K:TV→VT→Prop}{σ:List TV}{T:VT}{D:List Nat}(h:sS P fn ro σ T D K):∃T' x,na ro D T=some T'∧kT P T' σ fn.results=some x∧K x T':=by
 unfold sS at h
 split at h
 ·rename_i T' hT
  split at h
  ·rename_i x hx;exact ⟨T',x,hT,hx,h⟩
  ·exact h.elim
 ·exact h.elim
theorem VCx.enter {ro:Nat}{f:FuncId}{fn:Func}{c:Code}{xs:List TV}{T:VT}{K:TV→VT→Prop}(hf:P.funcs[f]?=some fn)(hb:fn.body=some c)
  (h:VWx P G none ro c (sU fn xs) T [] (wy P fn ro K)):VCx P G ro f xs T K:=by
 intro g w us rw0 hG hx
 refine xc (r:=none) (n:=0) (callsIn_of_wp_marks hf hb trivial (wpIn_mono (h none g w _ rw0 hG ?_ rfl (λ_ h=>nomatch h) rfl) ?_))
 ·have e1:(us.toArray++replicate (fn.ntmps-us.toArray.size) undef).toList=us++(List.replicate (fn.ntmps-xs.length) undef):=by simp [hx.1]
  rw [e1]
  refine hx.app ?_
  have:=VRs.vals g w (List.replicate (fn.ntmps-xs.length) undef)
  simpa using this
 ·rintro e a' w' ⟨g',σ',T',D',hq,e1,r',hσ',hd',hD',hx'⟩
  cases e with
  |normal=>
   obtain ⟨T'',x,h1,h2,h3⟩:=vC (P:=P) hq
   simp only [bodyPostM,hd']
   exact o7 D' T' T'' g' w' x h1 h2 h3 r' hσ' e1 hx'
  |ret=>
   obtain ⟨T'',x,h1,h2,h3⟩:=vC (P:=P) hq
   simp only [bodyPostM,hd']
   exact o7 D' T' T'' g' w' x h1 h2 h3 r' hσ' e1 hx'
  |exit id=>exact hq.elim
  |goto l=>exact hq.elim
  |panic ch=>exact hq.elim
  |outgrown=>exact hq.elim
def Bf (P:Program)(G:aD)(run:uc):Prop:=∀rd ro c σ T D K,run rd ro c σ T D K→VWx P G rd ro c σ T D K
theorem s8 {g:Gh}{w:World}:∀(ps:List Tmp) (xs σ:List TV) (us tmps:List Value),VRs g w xs us→VRs g w σ tmps→VRs g w (kJ ps xs σ) ((ps.zip us).foldl (λt p=>t.set p.1 p.2) tmps)
 |[],xs,σ,us,tmps,hx,hσ=>by simpa [kJ] using hσ
 |p::ps,[],σ,us,tmps,hx,hσ=>by
  have:us= []:=List.eq_nil_of_length_eq_zero hx.1
  subst this
  simpa [kJ] using hσ
 |p::ps,x::xs,σ,[],tmps,hx,hσ=>by have:=hx.1;simp at this
 |p::ps,x::xs,σ,u::us,tmps,hx,hσ=>by
  simp only [kJ,List.zip_cons_cons,List.foldl_cons]
  exact s8 ps xs _ us _ ⟨by simpa using hx.1,λj y v hy hv=>hx.2 (j+1) y v (by simpa using hy) (by simpa using hv)⟩ (hσ.set p (hx.2 0 x u rfl rfl))
theorem zg (ps:Array Tmp)(us:List Value)(tmps:Array Value):((ps.zip us.toArray).foldl (λtmps (t,a)=>tmps.setIfInBounds t a) tmps).toList=(ps.toList.zip us).foldl (λt p=>t.set p.1 p.2) tmps.toList:=by
 rw [←Array.foldl_toList]
 simp only [Array.toList_zip]
 generalize ps.toList.zip us=l
 induction l generalizing tmps with
 |nil=>rfl
 |cons p l ih=>simp only [List.foldl_cons];rw [ih];simp
theorem xC {ro id:Nat}{st:LoopState}{pend:Option Code}{T:VT}{K:VT→Prop}(h:iD ro id st pend T K):∃st0 pend0 σ ps asg body,T.objs[id]?=some (.loop st0 pend0 σ ps asg body)∧ro≤id∧K (T.setLoop id st pend σ ps asg body):=by
 unfold iD at h
 split at h
 ·rename_i st0 pend0 σ ps asg body ho
  cases hb:ble ro id with
  |false=>rw [hb] at h;exact h.elim
  |true=>rw [hb] at h;exact ⟨_,_,_,_,_,_,ho,le_of_ble_eq_true hb,h⟩
 ·exact h.elim
theorem CF {run:uc}(hrun:Bf P G run):fb P G (oX run):=by
 intro ro id xs T K h g w us rw0 hG hxs
 unfold oX at h
 split at h
 ·rename_i σ ps asg body ho
  cases hb:(ble ro id&&beq ps.size xs.length) with
  |false=>rw [hb] at h;exact h.elim
  |true=>
   rw [hb] at h
   simp only [and_eq_true] at hb
   obtain ⟨hro,hsz⟩:=hb
   have hro:=le_of_ble_eq_true hro
   have hsz:=eq_of_beq_eq_true hsz
   simp only [cond_true] at h
   obtain ⟨b,hgb,_⟩:=rw0.obj id _ ho rfl
   obtain ⟨rec,h1,h2,h3,h4,h5,h6,h7,_⟩:=iX rw0 ho hgb
   refine ⟨b,_,_,_,_,hgb,run_yield h1 (by rw [h4];simpa [hxs.1] using hsz.symm),?_⟩
   rw [h4,h5,h6]
   refine roundIn_of_wpIn (F:=wide) trivial ?_
   refine wpIn_mono (hrun _ _ _ _ _ _ _ h (some b) g w {tmps:=_,defers:= []} rw0 hG ?_ rfl (λ_ h=>nomatch h) ⟨rfl,hgb⟩) ?_
   ·simp only
    rw [zg]
    exact s8 _ _ _ _ _ hxs h7
   ·rintro e a' w' ⟨g',σ',T',D',hq,e1,r',hσ',hd',hD',hx'⟩
    cases e with
    |normal=>
     simp only at hq
     split at hq
     ·rename_i σ2 ps2 asg2 body2 ho2
      have hgb':=e1.obj id b hgb
      obtain ⟨rec2,k1,k2,k3,k4,k5,k6,k7,k8⟩:=iX r' ho2 hgb'
      obtain ⟨m1,m2,m3⟩:=k8 .busy none
      have hrec:({rec2 with state:=.busy}:Loop)={rec2 with state:=.busy,pending:=none}:=by
       rw [←k3]
      refine ⟨_,run_beginRound k1 k2,?_⟩
      rw [hrec]
      refine wpIn_mono (hrun _ _ _ _ _ _ _ hq (some b) g' _ a' m1 ((hG.mono e1).mono m2) (hσ'.mono m2) hd' hD' ⟨rfl,hgb'⟩) ?_
      have fx:=hx'.trans e1 (m3 ro hro)
      rintro e a2 w2 ⟨g2,σ2',T2,D2,hq2,e2,r2,hσ2,hd2,hD2,hx2⟩
      have hgb2:=e2.obj id b hgb'
      have ee:=(e1.trans m2).trans e2
      have ff:=fx.trans (e1.trans m2) hx2
      have fin:∀(st:LoopState) (pend:Option Code) (y:TV) (v:Value) (vd:VR g2 w2 y v),iD ro id st pend T2 (λT=>K y T)→st=(if pend.isNone then .ready else .done)→v=.bool pend.isNone→
        ∃v' w',(Instr.endRound b pend).run P w2=.ok v' w'∧∃v x g' T',(Ending.returned v'=.returned v)∧K x T'∧Evo g w g' w'∧RW g' T' w'∧VR g' w' x v∧Fix ro g T w T' w':=by
       intro st pend y v vd hv hst hvv
       obtain ⟨st0,pend0,σ3,ps3,asg3,body3,n1,n2,n3⟩:=xC hv
       obtain ⟨rec3,p1,p2,p3,p4,p5,p6,p7,p8⟩:=iX r2 n1 hgb2
       obtain ⟨q1,q2,q3⟩:=p8 st pend
       refine ⟨_,_,run_endRound pend p1,v,y,g2,_,by rw [hvv],n3,?_⟩
       rw [←hst]
       exact ⟨ee.trans q2,q1,vd.mono q2,ff.trans ee (q3 ro hro)⟩
      cases e with
      |normal=>exact fin .ready none _ _ (.val (.bool true)) hq2 rfl rfl
      |ret=>exact fin .done (some .ret) _ _ (.val (.bool false)) hq2 rfl rfl
      |exit i=>exact fin .done (some (.exit i)) _ _ (.val (.bool false)) hq2 rfl rfl
      |goto l=>exact hq2.elim
      |panic ch=>exact hq2.elim
      |outgrown=>exact hq2.elim
     ·exact hq.elim
    |ret=>exact hq.elim
    |exit i=>exact hq.elim
    |goto l=>exact hq.elim
    |panic ch=>exact hq.elim
    |outgrown=>exact hq.elim
 ·exact h.elim
theorem xD {ro id:Nat}{σ:List TV}{D:List Nat}{K:KX}{T:VT}(h:gn ro id σ D K T):∃st pend σ' ps asg body e,T.objs[id]?=some (.loop st pend σ' ps asg body)∧ro≤id∧K e σ (T.setLoop id .exhausted pend σ' ps asg body) D∧st≠ .busy∧
  ((pend=none∧e=.normal)∨(pend=some .ret∧e=.ret)∨∃x,pend=some (.exit x)∧e=.exit x):=by
 unfold gn at h
 split at h
 ·rename_i ho
  cases hb:ble ro id with
  |false=>rw [hb] at h;exact h.elim
  |true=>rw [hb] at h;exact ⟨_,_,_,_,_,_,_,ho,le_of_ble_eq_true hb,h,(λh=>by cases h),.inl ⟨rfl,rfl⟩⟩
 ·rename_i ho
  cases hb:ble ro id with
  |false=>rw [hb] at h;exact h.elim
  |true=>rw [hb] at h;exact ⟨_,_,_,_,_,_,_,ho,le_of_ble_eq_true hb,h,(λh=>by cases h),.inr (.inl ⟨rfl,rfl⟩)⟩
 ·rename_i ho
  cases hb:ble ro id with
  |false=>rw [hb] at h;exact h.elim
  |true=>rw [hb] at h;exact ⟨_,_,_,_,_,_,_,ho,le_of_ble_eq_true hb,h,(λh=>by cases h),.inr (.inr ⟨_,rfl,rfl⟩)⟩
 ·exact h.elim
theorem o8 {r:Option Nat}{ro id b:Nat}{σ:List TV}{D:List Nat}{K:KX}{T':VT}(h:gn ro id σ D K T'){g0:Gh}{T0:VT}{w0:World}{g':Gh}{w':World}{a':Act}(r':RW g' T' w')(hb:g'.obj id=some b)(e1:Evo g0 w0 g' w')(hx:Fix ro g0 T0 w0 T' w')
  (hσ:VRs g' w' σ a'.tmps.toList) (hd:a'.defers=D.map (mk g')) (hD:∀id∈D,(g'.obj id).isSome=true) (v:Value):
  rangePost (bT r) 0 P b (λe a' w'=>∃g' σ' T' D',K e σ' T' D'∧Evo g0 w0 g' w'∧RW g' T' w'∧VRs g' w' σ' a'.tmps.toList∧a'.defers=D'.map (mk g')∧(∀id∈D',(g'.obj id).isSome=true)∧Fix ro g0 T0 w0 T' w') a' (.returned v) w':=by
 obtain ⟨st,pend,σ',ps,asg,body,e,n1,n2,n3,n4,n5⟩:=xD h
 obtain ⟨rec3,p1,p2,p3,p4,p5,p6,p7,p8⟩:=iX r' n1 hb
 obtain ⟨q1,q2,q3⟩:=p8 .exhausted pend
 have hrec:({rec3 with state:=.exhausted}:Loop)={rec3 with state:=.exhausted,pending:=pend}:=by rw [←p3]
 refine ⟨_,_,run_endLoop p1 (by rw [p2];exact n4),?_⟩
 rw [hrec,p3]
 have fin:∃g'' σ'' T'' D'',K e σ'' T'' D'' ∧Evo g0 w0 g'' (w'.putObj b (.loop {rec3 with state:=.exhausted,pending:=pend}))∧RW g'' T'' (w'.putObj b (.loop {rec3 with state:=.exhausted,pending:=pend}))∧VRs g'' (w'.putObj b (.loop {rec3 with state:=.exhausted,pending:=pend})) σ'' a'.tmps.toList∧a'.defers=D''.map (mk g'')∧(∀id∈D'',(g''.obj id).isSome=true)∧Fix ro g0 T0 w0 T'' (w'.putObj b (.loop {rec3 with state:=.exhausted,pending:=pend})):=
  ⟨g',σ,_,D,n3,e1.trans q2,q1,hσ.mono q2,hd,hD,hx.trans e1 (q3 ro n2)⟩
 rcases n5 with ⟨rfl,rfl⟩ | ⟨rfl,rfl⟩ | ⟨x,rfl,rfl⟩
 ·exact fin
 ·exact wpIn_ret fin
 ·exact wpIn_exit fin
theorem xE {α:Type}(l m:List α):(l++m).take l.length=l:=by simp
theorem zH (us vs:List Value)(y:Value):(us.toArray++ #[y])++vs.toArray=(us++ [y]++vs).toArray:=by simp
theorem qW {a:Act}{f:Operand}{l:Nat}{fi:FuncId}{us vs:List Value}(h:a.eval f=.func (.func fi) us.toArray vs.toArray)(w:World):
  (resolve a.eval (rangeCall f l) 0).run P w=.ok {target:=.fn (.func fi) vs.toArray,args:=us.toArray++ #[.func (.yield l) #[] #[]]} w:=by
 have hc:a.eval (.const (.func (.yield l) #[] #[]))=.func (.yield l) #[] #[]:=rfl
 simp [resolve,h,hc,Deferred.ofValue]
theorem s9 {fi:FuncId}{fn:Func}{args vs:Array Value}(hfn:P.funcs[fi]?=some fn)(hb:fn.body.isSome=true)(hnm:(fn.name== "runtime.NumGoroutine")=false)(w:World):
  (invoke (.fn (.func fi) vs) args).run P w=.ok (.enter fi (args++vs)) w:=by
 have hb':fn.body≠none:=by intro h;rw [h] at hb;cases hb
 have hnm':fn.name≠ "runtime.NumGoroutine" :=by simpa using hnm
 simp [invoke,callFunc,hfn,hnm',hb']
theorem VWx.range0 {ro:Nat}{f:Operand}{ps:Array Tmp}{asg body:Code}{σ:List TV}{T:VT}{D:List Nat}{K:KX}{fi:FuncId}{fn:Func}{first ca:List TV}(hf:aI G σ f=.fn (.func fi) first ca)
  (hfn:P.funcs[fi]?=some fn) (hb:fn.body.isSome=true) (hnm:(fn.name== "runtime.NumGoroutine")=false)
  (hc:VCx P G ro fi (first++ [.yld (T.objs.length+1)]++ca) {T with objs:=T.objs++ [.defd]++ [.loop .ready none σ ps asg body]} λ_ T'=>gn ro (T.objs.length+1) σ (T.objs.length::D) K T'):
  VWx P G none ro (.rangeFunc f ps asg body) σ T D K:=by
 intro r g w a rw0 hG hσ hd hD hrd
 have hrd:r=none:=hrd
 subst hrd
 have hv:=dE hG hσ f
 rw [hf] at hv
 obtain ⟨us,vs,h2,h3,h4⟩:=hv.fn_inv
 refine wpIn_rangeFunc λfd _=> ?_
 obtain ⟨g1,r1,e1,ho1,_⟩:=rw0.new (.deferred (some [])) (o:=.defd) rfl (alloc_heap_new _ _)
 have hE:=Evo.of_gr r1 ((Gr.refl (w.alloc (.deferred (some [])))).alloc (.loop {state:=.ready,pending:=none,fn:=fd,tmps:=a.tmps,params:=ps,assign:=asg,body:=body,defers:=w.heap.size}))
 obtain ⟨g2,r2,e2,ho2,_⟩:=r1.new (.loop {state:=.ready,pending:=none,fn:=fd,tmps:=a.tmps,params:=ps,assign:=asg,body:=body,defers:=w.heap.size}) (o:=.loop .ready none σ ps asg body) rfl
  ⟨a.tmps.toList,fd,w.heap.size,alloc_heap_new _ _,hσ.mono (e1.trans hE)⟩
 have ee:=e1.trans e2
 have hl:(w.alloc (.deferred (some []))).heap.size=w.heap.size+1:=World.size_alloc ..
 have hl2:({T with objs:=T.objs++ [.defd]}:VT).objs.length=T.objs.length+1:=by simp
 rw [hl,hl2] at ho2
 have ho1':=e2.obj _ _ ho1
 have f1:Fix ro g T w {T with objs:=T.objs++ [.defd]++ [.loop .ready none σ ps asg body]} ((w.alloc (.deferred (some []))).alloc (.loop {state:=.ready,pending:=none,fn:=fd,tmps:=a.tmps,params:=ps,assign:=asg,body:=body,defers:=w.heap.size})):=
  Fix.of_same (Same.of_gr rw0 (((Gr.refl w).alloc _).alloc _)) (by simp only [List.append_assoc];exact xE _ _)
 refine ⟨w.heap.size+1,[{target:=.collected w.heap.size,args:= #[]}],_,_,_,fi,_,_,run_enterLoop_outer fd a.tmps ps asg body,qW h2 _,λ_ _=>trivial,s9 hfn hb hnm _,λh=>(by cases h),?_⟩
 have hargs:VRs g2 _ (first++ [.yld (T.objs.length+1)]++ca) (us++ [.func (.yield (w.heap.size+1)) #[] #[]]++vs):=((h3.mono ee).app (VRs.cons (.yld ho2) (VRs.nil _ _))).app (h4.mono ee)
 have hcall:=hc g2 _ _ r2 (hG.mono ee) hargs
 have ha:(us.toArray++ #[Value.func (.yield (w.heap.size+1)) #[] #[]])++vs.toArray=(us++ [Value.func (.yield (w.heap.size+1)) #[] #[]]++vs).toArray:=zH us vs _
 rw [ha]
 refine mB (Calls.mono hcall ?_)
 rintro e w' ⟨v,x,g',T',rfl,hq,e3,r',hv,hx⟩
 have eE:=ee.trans e3
 refine o8 (a':={tmps:=a.tmps,defers:= [{target:=.collected w.heap.size,args:= #[]}]++a.defers}) hq r' (e3.obj _ _ ho2) eE (f1.trans ee hx) (hσ.mono eE) ?_ ?_ v
 ·show [_]++a.defers=_
  rw [hd,map_cons,jF eE hD]
  simp [mk,e3.obj _ _ ho1']
 ·intro id hid
  rcases mem_cons.1 hid with rfl | hid
  ·rw [e3.obj _ _ ho1'];rfl
  ·exact eB eE hD id hid
theorem VWx.range1 {i0 ro:Nat}{f:Operand}{ps:Array Tmp}{asg body:Code}{σ:List TV}{T:VT}{D:List Nat}{K:KX}{fi:FuncId}{fn:Func}{first ca:List TV}{st0:LoopState}{pend0:Option Code}{σ0:List TV}{ps0:Array Tmp}{asg0 body0:Code}
  (hf:aI G σ f=.fn (.func fi) first ca) (hlp:T.objs[i0]?=some (.loop st0 pend0 σ0 ps0 asg0 body0))
  (hfn:P.funcs[fi]?=some fn) (hb:fn.body.isSome=true) (hnm:(fn.name== "runtime.NumGoroutine")=false)
  (hc:VCx P G ro fi (first++ [.yld T.objs.length]++ca) {T with objs:=T.objs++ [.loop .ready none σ ps asg body]} λ_ T'=>gn ro T.objs.length σ D K T'):
  VWx P G (some i0) ro (.rangeFunc f ps asg body) σ T D K:=by
 intro r g w a rw0 hG hσ hd hD hrd
 obtain ⟨hr1,hr2⟩:=hrd
 obtain ⟨b0,rfl⟩:=Option.isSome_iff_exists.1 hr1
 obtain ⟨rec0,k1,_⟩:=iX rw0 hlp hr2
 have hv:=dE hG hσ f
 rw [hf] at hv
 obtain ⟨us,vs,h2,h3,h4⟩:=hv.fn_inv
 refine wpIn_rangeFunc λfd _=> ?_
 have hE:=Evo.of_gr rw0 ((Gr.refl w).alloc (.loop {state:=.ready,pending:=none,fn:=fd,tmps:=a.tmps,params:=ps,assign:=asg,body:=body,defers:=rec0.defers}))
 obtain ⟨g2,r2,ee,ho2,_⟩:=rw0.new (.loop {state:=.ready,pending:=none,fn:=fd,tmps:=a.tmps,params:=ps,assign:=asg,body:=body,defers:=rec0.defers}) (o:=.loop .ready none σ ps asg body) rfl
  ⟨a.tmps.toList,fd,rec0.defers,alloc_heap_new _ _,hσ.mono hE⟩
 have f1:Fix ro g T w {T with objs:=T.objs++ [.loop .ready none σ ps asg body]} (w.alloc (.loop {state:=.ready,pending:=none,fn:=fd,tmps:=a.tmps,params:=ps,assign:=asg,body:=body,defers:=rec0.defers})):=
  Fix.of_same (Same.of_gr rw0 ((Gr.refl w).alloc _)) (xE _ _)
 refine ⟨w.heap.size,[],_,_,_,fi,_,_,run_enterLoop_inner k1 fd a.tmps ps asg body,qW h2 _,λ_ _=>trivial,s9 hfn hb hnm _,λh=>(by cases h),?_⟩
 have hargs:VRs g2 _ (first++ [.yld T.objs.length]++ca) (us++ [.func (.yield w.heap.size) #[] #[]]++vs):=((h3.mono ee).app (VRs.cons (.yld ho2) (VRs.nil _ _))).app (h4.mono ee)
 have hcall:=hc g2 _ _ r2 (hG.mono ee) hargs
 have ha:(us.toArray++ #[Value.func (.yield w.heap.size) #[] #[]])++vs.toArray=(us++ [Value.func (.yield w.heap.size) #[] #[]]++vs).toArray:=zH us vs _
 rw [ha]
 refine mB (Calls.mono hcall ?_)
 rintro e w' ⟨v,x,g',T',rfl,hq,e3,r',hv,hx⟩
 have eE:=ee.trans e3
 refine o8 (a':={tmps:=a.tmps,defers:= []++a.defers}) hq r' (e3.obj _ _ ho2) eE (f1.trans ee hx) (hσ.mono eE) ?_ (eB eE hD) v
 show []++a.defers=_
 rw [hd,jF eE hD];rfl
def aQ (P:Program)(G:aD)(C:FuncId→Option ba):Prop:=∀f W,C f=some W→∀ro xs T K,W ro xs T K→VCx P G ro f xs T K
def gt (P:Program):Bool:=P.funcs.toList.all λfn=> !fn.body.isSome || !(fn.name== "runtime.NumGoroutine")
theorem CG {C:FuncId→Option ba}(hB:gt P=true)(hC:aQ P G C){run:uc}(hrun:Bf P G run):dV P G (jf P C run):=by
 intro ro f xs T K h
 unfold jf at h
 split at h
 ·rename_i fn hf
  split at h
  ·rename_i c hc
   have hnm:(fn.name== "runtime.NumGoroutine")=false:=by
    have hmem:fn∈P.funcs.toList:=by
     obtain ⟨hlt,he⟩:=Array.getElem?_eq_some_iff.1 hf
     rw [←he];exact Array.mem_toList_iff.2 (Array.getElem_mem hlt)
    have:=List.all_eq_true.1 hB fn hmem
    simpa [hc] using this
   refine ⟨fn,hf,by rw [hc];rfl,hnm,?_⟩
   split at h
   ·rename_i W hW
    exact hC f W hW ro xs T K h
   ·exact VCx.enter hf hc (hrun _ _ _ _ _ _ _ h)
  ·exact h.elim
 ·exact h.elim
def ek (P:Program)(G:aD)(L:Nat→Option (bH × Code)):Prop:=∀id W c,L id=some (W,c)→∀rd ro σ T D K,W rd ro σ T D K→VWx P G rd ro c σ T D K
theorem ak:ek P G λ_=>none:=λ_ _ _ h=>by cases h
theorem wA {C:FuncId→Option ba}(hm:P.follows .mixedOrders=true)(hB:gt P=true)(hC:aQ P G C):
  ∀n m,m≤n→∀F L,ek P G L→Bf P G (vx P G C F m L)
 |_,0,_,_,_,_,_,_,_,_,_,_,_,h=>by simp only [vx] at h;exact h.elim
 | 0,m+1,hle,_,_,_,_,_,_,_,_,_,_,_=>by omega
 |n+1,m+1,hle,F,L,hL,rd,ro,c,σ,T,D,K,h=>by
  have ih:=λm hm0=>wA hm hB hC n m hm0 F L hL
  have ih0:=λm hm0=>wA hm hB hC n m hm0 bx (λ_=>none) ak
  have hcal:dV P G (jf P C (vx P G C bx m λ_=>none)):=CG hB hC (ih0 m (by omega))
  have hrnd:fb P G (oX (vx P G C bx m λ_=>none)):=CF (ih0 m (by omega))
  unfold vx at h
  cases c with
  |skip=>exact VWx.here (e:=.normal) h λF a w R hr=>wpIn_skip hr
  |exit id=>exact VWx.here (e:=.exit id) h λF a w R hr=>wpIn_exit hr
  |ret=>exact VWx.here (e:=.ret) h λF a w R hr=>wpIn_ret hr
  |seq a b=>
   refine VWx.seq ((ih m (by omega) _ _ _ _ _ _ _ h).mono λe σ T D hq=> ?_)
   cases e<;>first
    |exact ih m (by omega) _ _ _ _ _ _ _ hq
    |exact hq
  |cond c x y=>
   simp only at h
   split at h
   ·rename_i b hb
    refine VWx.cond hb (λhbt=> ?_) (λhbf=> ?_)
    ·subst hbt;exact ih m (by omega) _ _ _ _ _ _ _ h
    ·subst hbf;exact ih m (by omega) _ _ _ _ _ _ _ h
   ·exact h.elim
  |block id c=>
   simp only at h
   split at h
   ·rename_i W c' hW
    obtain ⟨rfl,h⟩:=h
    exact hL _ _ _ hW rd ro σ T D K h
   ·exact VWx.block (ih m (by omega) _ _ _ _ _ _ _ h)
  |scope c=>exact VWx.scope (ih m (by omega) _ _ _ _ _ _ _ h)
  |loop c=>
   refine VWx.loop (λk σ T D=>k≤m+1∧vx P G C F k L rd ro (.loop c) σ T D K) (m+1) ⟨le_refl _,by unfold vx;exact h⟩ ?_
   rintro k σ T D ⟨hk,h⟩
   cases k with
   |zero=>simp only [vx] at h;exact h.elim
   |succ j=>
    unfold vx at h
    refine (ih j (by omega) _ _ _ _ _ _ _ h).mono λe σ T D hq=> ?_
    cases e<;>first
     |exact ⟨j,by omega,by omega,hq⟩
     |exact hq
  |region id ops d=>
   simp only at h
   split at h
   ·rename_i W c' hW
    obtain ⟨rfl,h⟩:=h
    exact hL _ _ _ hW rd ro σ T D K h
   ·cases d with
    |false=>exact sV (Q:=K) hcal hrnd h
    |true=>exact EI (Q:=K) hcal hrnd hm h
  |rangeFunc f ps a b=>
   simp only at h
   split at h
   ·rename_i fi first ca hf
    cases rd with
    |none=>
     obtain ⟨fn,h1,h2,h3,h4⟩:=hcal _ _ _ _ _ h
     exact VWx.range0 hf h1 h2 h3 h4
    |some i0=>
     simp only at h
     split at h
     ·rename_i hlp
      obtain ⟨fn,h1,h2,h3,h4⟩:=hcal _ _ _ _ _ h
      exact VWx.range1 hf hlp h1 h2 h3 h4
     ·exact h.elim
   ·exact h.elim
  |label l=>exact VWx.here (e:=.normal) h λF a w R hr=>wpIn_label hr
  |goto l=>exact h.elim
  |refuse why=>exact h.elim
theorem vD {C:FuncId→Option ba}(hm:P.follows .mixedOrders=true)(hB:gt P=true)(hC:aQ P G C){F:iR}{n:Nat}{L:Nat→Option (bH × Code)}(hL:ek P G L){ro:Nat}{f:FuncId}{xs:List TV}{T:VT}{K:TV→VT→Prop}
  (h:aH P G C F n L ro f xs T K):VCx P G ro f xs T K:=by
 unfold aH at h
 split at h
 ·rename_i fn hf
  split at h
  ·rename_i c hc
   exact VCx.enter hf hc (wA hm hB hC n n (le_refl _) _ _ hL _ _ _ _ _ _ _ h)
  ·exact h.elim
 ·exact h.elim
theorem EJ {C:FuncId→Option ba}(hm:P.follows .mixedOrders=true)(hB:gt P=true)(hC:aQ P G C){n:Nat}{L:Nat→Option (bH × Code)}(hL:ek P G L){ro:Nat}{f:FuncId}{xs:List TV}{T:VT}{K:TV→VT→Prop}
 (h:FN P G C n L ro f xs T K):VCx P G ro f xs T K:=vD hm hB hC hL (F:=bx) h
theorem aw:aQ P G λ_=>none:=λ_ _ h=>by cases h
end
end
section
open Go.RowKit
section
variable {P:Program}{G:aD}
def dM (id:Nat):Code→Option Code
 | .block i c=>bif beq i id then some (.block i c) else dM id c
 | .seq a b=>match dM id a with
  |some c=>some c
  |none=>dM id b
 | .cond _ a b=>match dM id a with
  |some c=>some c
  |none=>dM id b
 | .loop c=>dM id c
 | .scope c=>dM id c
 | .rangeFunc _ _ a b=>match dM id a with
  |some c=>some c
  |none=>dM id b
 |_=>none
def CH (P:Program)(f:FuncId):Code:=match P.funcs[f]? with
 |some fn=>fn.body.getD .skip
 |none=>.skip
def ax (P:Program)(f:FuncId)(id:Nat):Code:=(dM id (CH P f)).getD .skip
def ta:Code→Code
 | .block _ (.loop c)=>c
 |_=>.skip
def dj (P:Program)(f:FuncId)(id:Nat):Code:=ta (ax P f id)
def jw (id:Nat):Code→Bool
 | .block i (.loop _)=>beq i id
 |_=>false
theorem uf {id:Nat}{c:Code}(h:jw id c=true):c=.block id (.loop (ta c)):=by
 unfold jw at h
 split at h
 ·rw [eq_of_beq_eq_true h];rfl
 ·cases h
def LEs:List TV→List (Option TV)→Prop
 |[],[]=>True
 |_::l,none::m=>LEs l m
 |x::l,some y::m=>x=y∧LEs l m
 |_,_=>False
def jx (m:List (Option TV)):List TV:=m.map λo=>o.getD .dead
theorem LEs.ok {g:Gh}{w:World}:∀{σ:List TV} {m:List (Option TV)} {us:List Value},LEs σ m→VRs g w σ us→VRs g w (jx m) us
 |[],[],us,_,h=>h
 |x::l,none::m,us,k,h=>by
  match us,h with
  |[],h=>have:=h.1;simp at this
  |u::us,h=>
   have h1:VRs g w l us:=⟨by have:=h.1;simpa using this,λj y v hy hv=>h.2 (j+1) y v (by simpa using hy) (by simpa using hv)⟩
   exact VRs.cons (.dead u) (LEs.ok (show LEs l m from k) h1)
 |x::l,some y::m,us,k,h=>by
  obtain ⟨rfl,k⟩:=k
  match us,h with
  |[],h=>have:=h.1;simp at this
  |u::us,h=>
   have h1:VRs g w l us:=⟨by have:=h.1;simpa using this,λj y v hy hv=>h.2 (j+1) y v (by simpa using hy) (by simpa using hv)⟩
   exact VRs.cons (h.2 0 x u rfl rfl) (LEs.ok k h1)
 |[],_::_,_,k,_=>k.elim
 |x::l,[],_,k,_=>k.elim
theorem VWx.sub {rd:Option Nat}{ro:Nat}{c:Code}{σ σ':List TV}{T:VT}{D:List Nat}{Q:KX}(h:VWx P G rd ro c σ' T D Q)(hs:∀g w us,VRs g w σ us→VRs g w σ' us):VWx P G rd ro c σ T D Q:=
 λr g w a rw0 hG hσ=>h r g w a rw0 hG (hs _ _ _ hσ)
def CI {ι:Type}(μ:ι→Nat)(sl:ι→List (Option TV))(tt:ι→VT)(Inv:ι→Prop)(N M:Nat)(s:ι)(σ:List TV)(T:VT):Prop:=
 ∃s',Inv s'∧μ s' <μ s∧((T=tt s'∧LEs σ (sl s'))∨(T.keep N M=tt s'∧LEs (av (ai N) (ai M) σ) (sl s')))
theorem VWx.loopS {ι:Type}{rd:Option Nat}{c:Code}{D:List Nat}{Q:KX}(μ:ι→Nat)(sl:ι→List (Option TV))(tt:ι→VT)(Inv:ι→Prop)(N M:Nat)(hN:∀s,Inv s→(tt s).objs.length≤N∧(tt s).tails.length≤M)(hD:∀id∈D,id<N)
    (hbody:∀s,Inv s→VWx P G rd 0 c (jx (sl s)) (tt s) D (nE (λσ T D'=>D'=D∧CI μ sl tt Inv N M s σ T) Q)):
    ∀s,Inv s→VWx P G rd 0 (.loop c) (jx (sl s)) (tt s) D Q:=by
  intro s0 hs0
  refine VWx.loop (λn σ T D'=>∃s,Inv s∧μ s=n∧σ=jx (sl s)∧T=tt s∧D'=D) (μ s0) ⟨s0,hs0,rfl,rfl,rfl,rfl⟩ ?_
  rintro n σ T D' ⟨s,hs,rfl,rfl,rfl,rfl⟩
  intro r g w a rw0 hG hσ hd hDs hrd
  refine wpIn_mono (hbody s hs r g w a rw0 hG hσ hd hDs hrd) ?_
  rintro e a' w' ⟨g',σ',T',D'',hq,e',r',hσ',hd',hDs',hx⟩
  cases e<;>first
    |exact ⟨g',σ',T',D'',hq,e',r',hσ',hd',hDs',hx⟩
    | (obtain ⟨rfl,s',hs',hlt,⟨rfl,hle⟩ | ⟨hT,hle⟩⟩:=hq
       · exact ⟨g',_,_,_,⟨_,hlt,s',hs',rfl,rfl,rfl,rfl⟩,e',r',hle.ok hσ',hd',hDs',hx⟩
       · have hdk:∀id∈D'',(g'.keep N M).obj id=g'.obj id:=λid hid=>by simp [Gh.keep,hD id hid]
         refine ⟨g'.keep N M,_,tt s',D'',⟨_,hlt,s',hs',rfl,rfl,rfl,rfl⟩,e'.keep rw0 (hN s hs).1 (hN s hs).2,hT▸r'.keep N M,hle.ok (hσ'.ren (rB g' N M)),?_,?_,?_⟩
         · rw [hd']
           apply map_congr_left
           intro id hid
           simp only [mk,hdk id hid]
         · intro id hid
           rw [hdk id hid];exact hDs' id hid
         · refine ⟨?_,λi hi=>absurd hi (not_lt_zero i),λi o b hi=>absurd hi (not_lt_zero i)⟩
           rw [←hT]
           simp only [VT.keep,length_map,length_take]
           have h1:=hx.len
           have h2:=(hN s hs).1
           omega)
theorem VWx.blockS {ι:Type}{rd:Option Nat}{f:FuncId}{id:Nat}{D:List Nat}{Q:KX}(hc:jw id (ax P f id)=true)(μ:ι→Nat)(sl:ι→List (Option TV))(tt:ι→VT)(Inv:ι→Prop)(N M:Nat)(hN:∀s,Inv s→(tt s).objs.length≤N∧(tt s).tails.length≤M)(hD:∀id∈D,id<N)
  (hbody:∀s,Inv s→VWx P G rd 0 (dj P f id) (jx (sl s)) (tt s) D (nE (λσ T D'=>D'=D∧CI μ sl tt Inv N M s σ T) (oW id Q))):
  ∀s,Inv s→VWx P G rd 0 (ax P f id) (jx (sl s)) (tt s) D Q:=by
 intro s hs
 rw [uf hc]
 exact VWx.block (VWx.loopS μ sl tt Inv N M hN hD hbody s hs)
def nL (G:aD):Prop:=∀n cs,G n=some cs→∃vs:List Value,cs=vs.map .val
theorem GOk.sub {g g':Gh}{w:World}{f h:Nat→Option Nat}(hv:nL G)(k:GOk G g w)(r:jC g g' f h):GOk G g' w:=λn cs hn=>by
 obtain ⟨vs,rfl⟩:=hv n cs hn
 have h1:=(k n _ hn).ren r
 simp only [TV.ren,vg] at h1
 exact h1
theorem VCx.lift {ro:Nat}{f:FuncId}{xs ys:List TV}{T:VT}{Q:TV→VT→Prop}(is ks:List Nat)(hv:nL G)(hi:is.Nodup)(hk:ks.Nodup)(hil:∀i∈is,∃o,T.objs[i]?=some o∧o.live=true)(hkl:∀k∈ks,k<T.tails.length)(hro:∀i∈is,ro≤i)
  (hx:av (aj is) (aj ks) ys=xs) (h:VCx P G 0 f xs (T.give is ks) Q) (hlen:∀x T',Q x T'→is.length≤T'.objs.length∧ks.length≤T'.tails.length):
  VCx P G ro f ys T λy T'' =>∃x T',Q x T'∧y=x.ren (an T.objs.length is) (an T.tails.length ks)∧T'' =T.back is ks T':=by
 intro g w us rw0 hG hxs
 have hargs:=hxs.ren (qf g T is ks)
 rw [hx] at hargs
 have hil':∀i∈is,i<T.objs.length:=λi h=>by obtain ⟨o,h1,_⟩:=hil i h;exact (List.getElem?_eq_some_iff.1 h1).1
 have r1:=rw0.give hi hk hil' hkl
 refine Calls.mono (h _ w _ r1 (hG.sub hv (qf g T is ks)) hargs) ?_
 rintro e w' ⟨v,x,gc,T',rfl,hq,e',r',hv',_⟩
 obtain ⟨l1,l2⟩:=hlen x T' hq
 obtain ⟨g',ev,rb,rn⟩:=vh rw0 hi hk hil hkl e' r' l1 l2
 obtain ⟨b1,b2,b3,b4⟩:=eJ is T.objs (T'.objs.map (VO.ren (an T.objs.length is) (an T.tails.length ks))) hi hil' (by simpa using l1)
 refine ⟨v,_,g',_,rfl,⟨x,T',hq,rfl,rfl⟩,ev,rb,hv'.ren rn,?_,?_,?_⟩
 ·show T.objs.length≤(aT T.objs is _).length
  rw [b1];omega
 ·intro i hir hil2
  exact b2 i hil2 λhm=>absurd (hro i hm) (by omega)
 ·intro i o b hir ho hl hb
  have hnm:i∉is:=λhm=>absurd (hro i hm) (by omega)
  exact e'.frb b (.inr (.inl ⟨i,o,ho,hl,hnm,hb⟩))
theorem VCx.liftPure {ro:Nat}{f:FuncId}{xs ys:List TV}{T:VT}{y:TV}{K:TV→VT→Prop}(hv:nL G)(h:VCx P G 0 f xs ⟨[],[]⟩ λx T'=>x=y∧T'=⟨[],[]⟩)(hx:av (aj []) (aj []) ys=xs)(hy:∀f h,y.ren f h=y)(k:K y T):VCx P G ro f ys T K:=by
 refine (VCx.lift (T:=T) [] [] hv nodup_nil nodup_nil (by simp) (by simp) (by simp) hx (by rw [VT.give_nil];exact h) (λ_ _ _=>⟨zero_le _,zero_le _⟩)).mono ?_
 rintro z T' ⟨x,T'',⟨rfl,rfl⟩,rfl,rfl⟩
 have hb:T.back [] [] ⟨[],[]⟩=T:=by rw [VT.back_nil];cases T;simp
 rw [hy,hb];exact k
def az:List (FuncId × ba)→FuncId→Option ba
 |[],_=>none
 | (f,W)::l,g=>bif beq f g then some W else az l g
theorem aE:∀{l:List (FuncId × ba)},(∀p∈l,∀ro xs T K,p.2 ro xs T K→VCx P G ro p.1 xs T K)→aQ P G (az l)
 |[],_=>λ_ _ h=>by cases h
 | (f,W)::l,h=>λg W' hW=>by
  simp only [az] at hW
  cases hb:beq f g with
  |true=>
   rw [hb] at hW
   injection hW with hW;subst hW
   have:=eq_of_beq_eq_true hb
   subst this
   exact h _ mem_cons_self
  |false=>
   rw [hb] at hW
   exact aE (λp hp=>h p (mem_cons_of_mem _ hp)) g W' hW
theorem aL {b:Bool}{X Y:Prop}(ht:b=true→X)(hf:b=false→Y):cond b X Y:=by
 cases b
 ·exact hf rfl
 ·exact ht rfl
theorem VCx.keepQ {f:FuncId}{xs:List TV}{T:VT}{Q:TV→VT→Prop}(n m:Nat)(hn:T.objs.length≤n)(hm:T.tails.length≤m)(h:VCx P G 0 f xs T λx T'=>Q (x.ren (ai n) (ai m)) (T'.keep n m)):VCx P G 0 f xs T Q:=by
 intro g w us rw0 hG hx
 refine Calls.mono (h g w us rw0 hG hx) ?_
 rintro e w' ⟨v,x,g',T',he,hq,e',r',hv,hfx⟩
 refine ⟨v,_,g'.keep n m,T'.keep n m,he,hq,e'.keep rw0 hn hm,r'.keep n m,hv.ren (rB g' n m),?_,λi hi=>absurd hi (not_lt_zero i),λi o b hi=>absurd hi (not_lt_zero i)⟩
 simp only [VT.keep,length_map,length_take]
 have h1:=hfx.len
 omega
end
end
section
open Go.RowKit
section
variable {P:Program}
def G4:TV→Bool
 | .val _ | .ptr .. | .sl .. | .map _ | .dead=>true
 |_=>false
def Kv (x:TV):TV:=if G4 x then x else .dead
def xF (size k e:Nat)(n:Nat)(es':List (List TV))(σ:List TV):List TV:=σ.map λx=>match x with
 | .vec s es (.tail k' e')=>if s=size∧k'=k∧e'=e∧es.length=n then .vec size es' .none else .dead
 |x=>Kv x
theorem l8 {g:Gh}{w:World}:∀{xs:List TV} {us us':List Value},xs.map bM=us.map some→VRs g w xs us'→us'=us
 |[],[],us',_,k=>List.eq_nil_of_length_eq_zero k.1
 |[],_::_,_,h,_=>by simp at h
 |_::_,[],_,h,_=>by simp at h
 |x::xs,u::us,us',h,k=>by
  simp only [map_cons,List.cons.injEq] at h
  cases us' with
  |nil=>have:=k.1;simp at this
  |cons u' us'=>
   have h1:=bV h.1 (k.2 0 x u' rfl rfl)
   have h2:=l8 (us':=us') h.2 ⟨by have:=k.1;simpa using this,λj x u hx hu=>k.2 (j+1) x u (by simpa using hx) (by simpa using hu)⟩
   rw [h1,h2]
theorem VCalls.of_grT {f:FuncId}{xs:List TV}{us:List Value}{v:Value}(hx:xs.map bM=us.map some)(h:∀w,Calls P f us.toArray w λe w'=>e=.returned v∧Gr w w')(T:VT):VCalls P f xs T λx T'=>x=.val v∧T'=T:=by
 intro g w us' r hxs
 have:=l8 hx hxs
 subst this
 refine (h w).mono ?_
 rintro e w' ⟨rfl,hg⟩
 exact ⟨v,.val v,g,T,rfl,⟨rfl,rfl⟩,Evo.of_gr r hg,r.gr hg,.val v⟩
end
end
section
open Go.ChangeShapes Go.WideShapes Go.ChangeAt Go.RowKit Go.Joins Go.Deep
def io (w:World):Gh:=⟨λ_=>none,λb o=>(w.cell? ⟨b,o,none⟩).isSome=true,λb=>b<w.heap.size,λ_=>none⟩
theorem H9 (w:World):RW (io w) ⟨[],[]⟩ w:=by
 refine ⟨(λid o h=>by simp at h),(λi j oi oj b h=>by simp at h),(λ_ _=>rfl),(λ_ _ h=>h),(λ_ h=>h),(λk p h=>by simp at h),(λ_ _=>rfl),(λi j x y b h=>nomatch h),(λi oi b k x h=>by simp at h),(λk x h=>nomatch h),(λk x h=>nomatch h),(λk x h=>nomatch h)⟩
section
variable {H:Type}{enc:TypeId × Value→H}{P:Program}{w:World}{base:Nat}{spare:Nat→Bool}{held:Bool}
end
end
section
open Go.ChangeShapes Go.WideShapes Go.ChangeAt Go.RowKit Go.Joins Go.Deep
def fc (x:TV)(_:VT):Prop:=match x with
 | .val (.bool b)=>cond b True False
 |_=>False
theorem VCx.top {P:Program}{ro:Nat}{f:FuncId}{xs:List TV}{us:List Value}(h:VCx P (λ_=>none) ro f xs ⟨[],[]⟩ fc)(w:World)(hx:VRs (io w) w xs us):
  Calls P f us.toArray w λe w'=>e=.returned (.bool true)∧Gr w w':=by
 refine (h (io w) w us (H9 w) (λ_ _ h=>nomatch h) hx).mono ?_
 rintro e w' ⟨u,x,g',T',rfl,hq,ev,_,hv,_⟩
 unfold fc at hq
 split at hq
 ·rename_i b
  cases b with
  |false=>exact hq.elim
  |true=>
   rw [hv.val_inv]
   exact ⟨rfl,ev.os,ev.tape,ev.output,ev.size,λb hb=>ev.frb b hb⟩
 ·exact hq.elim

theorem VCx.trueOnly {P:Program}{G:aD}{f:FuncId}{xs:List TV}(h:VCx P G 0 f xs ⟨[],[]⟩ fc):VCx P G 0 f xs ⟨[],[]⟩ λx T'=>x=.val (.bool true)∧T'=⟨[],[]⟩:=by
 refine VCx.keepQ 0 0 (le_refl _) (le_refl _) (h.mono λx T' hx=> ?_)
 unfold fc at hx
 split at hx
 ·rename_i b
  cases b with
  |false=>exact hx.elim
  |true=>exact ⟨rfl,by simp [VT.keep]⟩
 ·exact hx.elim
def wB:ba:=λ_ ys T K=>match ys with
 |[]=>K (.val (.bool true)) T
 |_::_=>False
theorem xG {P:Program}{G:aD}(hv:nL G){f:FuncId}(h:VCx P G 0 f [] ⟨[],[]⟩ fc):∀ro ys T K,wB ro ys T K→VCx P G ro f ys T K:=by
 intro ro ys T K hk
 unfold wB at hk
 split at hk
 ·exact VCx.liftPure hv h.trueOnly rfl (λ_ _=>rfl) hk
 ·exact hk.elim
def o9 (P:Program)(G:aD)(C:FuncId→Option ba)(f:FuncId)(xs:List TV):Prop:=FN P G C 3000 (λ_=>none) 0 f xs ⟨[],[]⟩ fc
theorem Bg {P:Program}{G:aD}{C:FuncId→Option ba}(hm:P.follows .mixedOrders=true)(hB:gt P=true)(hC:aQ P G C){f:FuncId}{xs:List TV}{X:Prop}(h:o9 P G C f xs=X)(hx:X):VCx P G 0 f xs ⟨[],[]⟩ fc:=by
 have h1:o9 P G C f xs:=by rw [h];exact hx
 unfold o9 at h1
 exact EJ hm hB hC ak h1
attribute [irreducible] o9
section
variable {H:Type}{enc:TypeId × Value→H}{P:Program}{w:World}{base:Nat}{spare:Nat→Bool}{held:Bool}
def nb (P:Program)(f:TypeId→Option (List TypeId)):Nat→List Field→Option (List TypeId)
 |_,[]=>some []
 |off,fd::r=>match f fd.type with
  |some ls=>bif beq fd.offset off&&beq (P.cellsOf fd.type) ls.length then (nb P f (off+ls.length) r).map (ls++ ·) else none
  |none=>none
def jK (P:Program):Nat→TypeId→Option (List TypeId)
 | 0,_=>none
 |n+1,t=>match P.underlying t with
  |some (.struct fs)=>nb P (jK P n) 0 fs.toList
  |some (.array ..)=>none
  |_=>some [t]
theorem tc {f:TypeId→Option (List TypeId)}{m:Nat}{cs:List Value}
  (hf:∀t ts sub x,f t=some ts→sub.length=ts.length→trod enc P w base spare held m t sub=some x→∀(j:Nat) t',ts[j]?=some t'→∃u m' y,sub[j]?=some u∧trod enc P w base spare held m' t' [u]=some y):
  ∀(l:List Field) (off:Nat) (ts:List TypeId),nb P f off l=some ts→cs.length=off+ts.length→(∀fd∈l,∃y,trod enc P w base spare held m fd.type ((cs.drop fd.offset).take (P.cellsOf fd.type))=some y)→
   ∀(j:Nat) t',ts[j]?=some t'→∃u m' y,cs[off+j]?=some u∧trod enc P w base spare held m' t' [u]=some y
 |[],off,ts,h,hl,hy,j,t',hj=>by
  simp only [nb] at h
  injection h with h;subst h
  simp at hj
 |fd::l,off,ts,h,hl,hy,j,t',hj=>by
  simp only [nb] at h
  split at h
  ·rename_i ls hls
   cases hb:(beq fd.offset off&&beq (P.cellsOf fd.type) ls.length) with
   |false=>rw [hb] at h;cases h
   |true=>
    rw [hb] at h
    simp only [and_eq_true] at hb
    have h1:=eq_of_beq_eq_true hb.1
    have h2:=eq_of_beq_eq_true hb.2
    simp only [cond_true,map_eq_some_iff] at h
    obtain ⟨ts',h3,rfl⟩:=h
    rw [List.length_append] at hl
    rcases lt_or_ge j ls.length with hj' | hj'
    ·rw [List.getElem?_append_left hj'] at hj
     obtain ⟨y,hy⟩:=hy fd (by simp)
     rw [h1,h2] at hy
     obtain ⟨u,m',y',k1,k2⟩:=hf _ _ _ _ hls (by rw [length_take,List.length_drop];omega) hy j t' hj
     refine ⟨u,m',y',?_,k2⟩
     rw [List.getElem?_take,if_pos hj',List.getElem?_drop] at k1
     exact k1
    ·rw [List.getElem?_append_right hj'] at hj
     obtain ⟨u,m',y',k1,k2⟩:=tc hf l (off+ls.length) ts' h3 (by omega) (λfd' h=>hy fd' (by simp [h])) (j-ls.length) t' hj
     refine ⟨u,m',y',?_,k2⟩
     rw [←k1]
     congr 1
     omega
  ·cases h
theorem pd:∀(n:Nat) (m:Nat) (t:TypeId) (ts:List TypeId) (cs:List Value) (x:DataW H × List MemPlace),jK P n t=some ts→cs.length=ts.length→trod enc P w base spare held m t cs=some x→
    ∀(j:Nat) t',ts[j]?=some t'→∃u m' y,cs[j]?=some u∧trod enc P w base spare held m' t' [u]=some y
  | 0,_,_,_,_,_,h,_,_=>by simp only [jK] at h;cases h
  |n+1,m,t,ts,cs,x,h,hl,ht=>by
    simp only [jK] at h
    split at h
    · rename_i fs hs
      obtain ⟨xs,m',_,_,_,hlen,hg⟩:=DataW.trod_struct hs ht
      intro j t' hj
      have:=tc (P:=P) (enc:=enc) (w:=w) (base:=base) (spare:=spare) (held:=held) (m:=m') (cs:=cs) (λt ts sub x h1 h2 h3=>pd n m' t ts sub x h1 h2 h3) fs.toList 0 ts h (by omega) ?_ j t' hj
      · simpa using this
      · intro fd hfd
        obtain ⟨i,hi,rfl⟩:=List.mem_iff_getElem.1 hfd
        have hi':i<fs.size:=by simpa using hi
        have h1:=hg i fs[i] (Array.getElem?_eq_getElem hi')
        have hx:i<xs.length:=by omega
        exact ⟨xs[i],by simpa [getElem?_eq_getElem hx] using h1⟩
    · cases h
    · injection h with h;subst h
      intro j t' hj
      match cs,hl with
      |[u],_=>
        have:j=0:=by
          rcases j with _ | j
          · rfl
          · simp at hj
        subst this
        simp at hj;subst hj
        exact ⟨u,m,x,rfl,ht⟩
theorem EK {m ty:Nat}{u:Value}{y:DataW H × List MemPlace}{k:IntKind}(hk:P.underlying ty=some (.int k))(h:trod enc P w base spare held m ty [u]=some y):∃n,u=.int k n∧(Lit.int k n).wf=true:=by
 obtain ⟨n,e0,_,wn⟩:=DataW.trod_int hk h
 injection e0 with e0
 exact ⟨n,e0,wn⟩
end
end
section
open Go.ChangeShapes Go.WideShapes Go.ChangeAt Go.RowKit Go.Joins Go.Deep
section
variable {H:Type}{enc:TypeId × Value→H}{P:Program}{w:World}{base:Nat}{spare:Nat→Bool}{held:Bool}
end
end
section
open Go.ChangeShapes Go.WideShapes Go.ChangeAt Go.RowKit Go.Joins Go.Deep
theorem rI {α:Type}{k:Nat}:∀(l:List (List α)),(∀x∈l,x.length=k)→∀(j:Nat) u,l.flatten[j]?=some u→∃i c x,c<k∧j=i*k+c∧l[i]?=some x∧x[c]?=some u
 |[],_,j,u,h=>by simp at h
 |a::r,hz,j,u,h=>by
  have ha:=hz a (by simp)
  rw [flatten_cons] at h
  rcases lt_or_ge j a.length with hj | hj
  ·rw [List.getElem?_append_left hj] at h
   exact ⟨0,j,a,by omega,by omega,rfl,h⟩
  ·rw [List.getElem?_append_right hj] at h
   obtain ⟨i,c,x,h1,h2,h3,h4⟩:=rI r (λx hx=>hz x (by simp [hx])) _ u h
   refine ⟨i+1,c,x,h1,?_,by simpa using h3,h4⟩
   rw [Nat.add_mul];omega
section
variable {P:Program}{H:Type}{enc:TypeId × Value→H}{w:World}{base:Nat}{spare:Nat→Bool}{held:Bool}
end
end
section
open Go.ChangeShapes Go.WideShapes Go.ChangeAt Go.RowKit Go.Joins Go.Deep
inductive SH where
 |int (k:IntKind)
 |bool
 |str
 |slice (es:List SH)
mutual
def SH.Fits:SH→TV→Prop
 | .int k,x=>∃z,x=.val (.int k z)∧(Lit.int k z).wf=true
 | .bool,x=>∃b,x=.val (.bool b)
 | .str,x=>∃s:ByteArray,x=.val (.string s)∧s.size≤maxLen
 | .slice es,x=>∃l:List (List TV),x=.vec es.length l .none∧l.length≤maxLen∧∀e∈l,cX es e
def cX:List SH→List TV→Prop
 |[],[]=>True
 |s::ss,x::xs=>s.Fits x∧cX ss xs
 |_,_=>False
end
theorem vE:∀{ss:List SH} {xs:List TV},cX ss xs→xs.length=ss.length
 |[],[],_=>rfl
 |[],_::_,h=>by simp [cX] at h
 |_::_,[],h=>by simp [cX] at h
 |s::ss,x::xs,h=>by
  simp only [cX] at h
  simp [vE h.2]
theorem bC {s:SH}{ss:List SH}{xs:List TV}(h:cX (s::ss) xs):∃x r,xs=x::r∧s.Fits x∧cX ss r:=by
 cases xs with
 |nil=>simp [cX] at h
 |cons x r=>simp only [cX] at h;exact ⟨x,r,rfl,h⟩
theorem iF {xs:List TV}(h:cX [] xs):xs= []:=by
 cases xs with
 |nil=>rfl
 |cons x r=>simp [cX] at h
theorem dY {k:IntKind}{x:TV}(h:SH.Fits (.int k) x):∃z,x=.val (.int k z)∧(Lit.int k z).wf=true:=by simpa [SH.Fits] using h
theorem CJ {x:TV}(h:SH.Fits .bool x):∃b,x=.val (.bool b):=by simpa [SH.Fits] using h
theorem Bh {es:List SH}{x:TV}(h:SH.Fits (.slice es) x):∃l:List (List TV),x=.vec es.length l .none∧l.length≤maxLen∧∀e∈l,cX es e:=by simpa [SH.Fits] using h
def pf (f:TypeId→Option SH):List TypeId→Option (List SH)
 |[]=>some []
 |t::r=>match f t,pf f r with
  |some s,some l=>some (s::l)
  |_,_=>none
theorem zI {f:TypeId→Option SH}:∀{ts:List TypeId} {ss:List SH},pf f ts=some ss→ss.length=ts.length
 |[],ss,h=>by simp [pf] at h;subst h;rfl
 |t::r,ss,h=>by
  simp only [pf] at h
  split at h
  ·rename_i s l h1 h2
   injection h with h;subst h
   simp [zI h2]
  ·cases h
def td (P:Program):Nat→TypeId→Option SH
 | 0,_=>none
 |n+1,t=>match P.underlying t with
  |some (.int k)=>some (.int k)
  |some .bool=>some .bool
  |some .string=>some .str
  |some (.slice e)=>match jK P n e with
   |some ts=>bif beq (P.cellsOf e) ts.length&&ble 1 ts.length then (pf (td P n) ts).map .slice else none
   |none=>none
  |_=>none
section
variable {P:Program}{H:Type}{enc:TypeId × Value→H}{w:World}{base:Nat}{held:Bool}
abbrev xH (enc:TypeId × Value→H)(P:Program)(w:World)(base:Nat)(held:Bool)(t:TypeId)(sh:SH):Prop:=∀u m y,trod enc P w base (λ_=>true) held m t [u]=some y→u.oneCell'=true∧∃x,VR (io w) w x u∧sh.Fits x
theorem rJ {f:TypeId→Option SH}(hf:∀t sh,f t=some sh→xH enc P w base held t sh):∀(ts:List TypeId) (ss:List SH) (cs:List Value),pf f ts=some ss→cs.length=ts.length→
  (∀(j:Nat) t',ts[j]?=some t'→∃u m y,cs[j]?=some u∧trod enc P w base (λ_=>true) held m t' [u]=some y)→(∀u∈cs,u.oneCell'=true)∧∃xs,VRs (io w) w xs cs∧cX ss xs
 |[],ss,cs,h,hl,_=>by
  simp [pf] at h;subst h
  have:=List.eq_nil_of_length_eq_zero hl
  subst this
  exact ⟨by simp,[],VRs.nil _ _,trivial⟩
 |t::r,ss,[],h,hl,_=>by simp at hl
 |t::r,ss,c::cs,h,hl,hj=>by
  simp only [pf] at h
  split at h
  ·rename_i s l h1 h2
   injection h with h;subst h
   obtain ⟨u,m,y,k1,k2⟩:=hj 0 t rfl
   simp at k1;subst k1
   obtain ⟨a1,x,a2,a3⟩:=hf t s h1 _ m y k2
   obtain ⟨b1,xs,b2,b3⟩:=rJ hf r l cs h2 (by simpa using hl) λj t' ht'=>by
    obtain ⟨u,m,y,k1,k2⟩:=hj (j+1) t' (by simpa using ht')
    exact ⟨u,m,y,by simpa using k1,k2⟩
   refine ⟨λu hu=> ?_,x::xs,VRs.cons a2 b2,a3,b3⟩
   rcases mem_cons.1 hu with rfl | hu
   ·exact a1
   ·exact b1 u hu
  ·cases h
theorem te {e:TypeId}{n:Nat}{ts:List TypeId}{f:TypeId→Option SH}{ss:List SH}(hf:∀t sh,f t=some sh→xH enc P w base held t sh)(hts:jK P n e=some ts)(hss:pf f ts=some ss):
    ∀(rows:List (List Value)),(∀x∈rows,x.length=ts.length∧∃m y,trod enc P w base (λ_=>true) held m e x=some y)→
      (∀u∈rows.flatten,u.oneCell'=true)∧∃l:List (List TV),l.length=rows.length∧VRs (io w) w l.flatten rows.flatten∧∀x∈l,cX ss x
  |[],_=>⟨by simp,[],rfl,VRs.nil _ _,by simp⟩
  |r::rows,h=>by
    obtain ⟨h1,m,y,h2⟩:=h r mem_cons_self
    obtain ⟨a1,xs,a2,a3⟩:=rJ hf ts ss r hss h1 (pd n m e ts r y hts h1 h2)
    obtain ⟨b1,l,b2,b3,b4⟩:=te hf hts hss rows λx hx=>h x (mem_cons_of_mem _ hx)
    refine ⟨λu hu=> ?_,xs::l,by simp [b2],by rw [flatten_cons,flatten_cons];exact a2.app b3,λx hx=> ?_⟩
    · rw [flatten_cons] at hu
      rcases mem_append.1 hu with hu | hu
      · exact a1 u hu
      · exact b1 u hu
    · rcases mem_cons.1 hx with rfl | hx
      · exact a3
      · exact b4 x hx
theorem pg:∀(n:Nat) (t:TypeId) (sh:SH),td P n t=some sh→xH enc P w base held t sh
 | 0,_,_,h=>by simp [td] at h
 |n+1,t,sh,h=>by
  intro u m y hy
  simp only [td] at h
  split at h
  ·rename_i k hk
   injection h with h;subst h
   obtain ⟨z,rfl,wz⟩:=EK hk hy
   exact ⟨rfl,_,.val _,z,rfl,wz⟩
  ·rename_i hk
   injection h with h;subst h
   obtain ⟨b,e,_⟩:=DataW.trod_bool hk hy
   injection e with e;subst e
   exact ⟨rfl,_,.val _,b,rfl⟩
  ·rename_i hk
   injection h with h;subst h
   obtain ⟨s,e,_,hs⟩:=DataW.trod_string hk hy
   injection e with e;subst e
   exact ⟨rfl,_,.val _,s,rfl,hs⟩
  ·rename_i e ht
   split at h
   ·rename_i ts hts
    cases hb:(beq (P.cellsOf e) ts.length&&ble 1 ts.length) with
    |false=>rw [hb] at h;cases h
    |true=>
     rw [hb] at h
     simp only [and_eq_true] at hb
     have hk:=eq_of_beq_eq_true hb.1
     have hpos:=le_of_ble_eq_true hb.2
     simp only [cond_true,map_eq_some_iff] at h
     obtain ⟨ss,hss,rfl⟩:=h
     have hsl:=zI hss
     rcases open_slice ht hy with ⟨hcs,_⟩ | ⟨a,len,cap,m',n',D,Pl,hcs,hbb,hl,hm,hmm,hx,hall⟩
     ·injection hcs with hcs;subst hcs
      exact ⟨rfl,.vec ss.length [] .none,.nil trivial,[],rfl,zero_le _,by simp⟩
     ·injection hcs with hcs;subst hcs
      simp only [if_true] at hmm
      subst hmm
      rw [hk] at hall
      obtain ⟨b,o,sp⟩:=a
      rcases Nat.eq_zero_or_pos m' with hc0 | hc0
      ·subst hc0
       have:len=0:=by omega
       subst this
       exact ⟨rfl,.vec ss.length [] .none,.odd _ trivial,[],rfl,zero_le _,by simp⟩
      ·have hsp:sp=none:=by
        obtain ⟨cs',h1,_⟩:=hall 0 hc0
        obtain ⟨_,h3,h4⟩:=World.cells?_some h1
        have h5:=h4 0 hpos
        rw [getElem?_eq_getElem (by omega)] at h5
        cases sp with
        |none=>rfl
        |some s=>simp [cell?,Addr.add] at h5;split at h5<;>cases h5
       subst hsp
       obtain ⟨V,hV⟩:=choose_lt (α:=List Value) (p:=λi cs'=>w.cells? base ((⟨b,o,none⟩:Addr).add (i*ts.length)) ts.length=some cs'∧trod enc P w base (λ_=>true) held n' e cs'=some (D i,Pl i)) (λi hi=>hall i hi)
       have each:∀i,i<len→(V i).length=ts.length∧(∀c,c<ts.length→w.cell? ⟨b,o+(i*ts.length+c),none⟩=(V i)[c]?)∧∃y,trod enc P w base (λ_=>true) held n' e (V i)=some y:=λi hi=>by
        obtain ⟨h1,h2⟩:=hV i (by omega)
        obtain ⟨_,h3,h4⟩:=World.cells?_some h1
        refine ⟨h3,λc hc=> ?_,_,h2⟩
        rw [←h4 c hc]
        congr 1
        simp [Addr.add_none,Nat.add_assoc]
       have at1:∀(i:Nat) x,((List.range len).map V)[i]?=some x→i<len∧x=V i:=λi x hx=>by
        rw [getElem?_map] at hx
        rcases lt_or_ge i len with hi | hi
        ·rw [List.getElem?_range hi] at hx
         injection hx with hx
         exact ⟨hi,hx.symm⟩
        ·rw [List.getElem?_eq_none (by simpa using hi)] at hx;cases hx
       have hz:∀x∈(List.range len).map V,x.length=ts.length:=λx hx=>by
        obtain ⟨i,hi,rfl⟩:=mem_map.1 hx
        exact (each i (List.mem_range.1 hi)).1
       obtain ⟨k1,l,k2,k3,k4⟩:=te (λt sh h=>pg n t sh h) hts hss ((List.range len).map V) λx hx=>by
        obtain ⟨i,hi,rfl⟩:=mem_map.1 hx
        obtain ⟨e1,_,y,e3⟩:=each i (List.mem_range.1 hi)
        exact ⟨e1,n',y,e3⟩
       have hlen:l.length=len:=by rw [k2];simp
       refine ⟨rfl,.vec ss.length l .none,?_,l,rfl,by omega,k4⟩
       refine .mk_vec hlen.symm hl hm (λx hx=>vE (k4 x hx)) trivial k3 (λj hj=> ?_) (λj u hu=> ?_) k1
       ·rw [←k3.1] at hj
        obtain ⟨i,c,x,h1,h2,h3,h4⟩:=rI _ hz j _ (getElem?_eq_getElem hj)
        obtain ⟨hi,rfl⟩:=at1 i x h3
        show (w.cell? ⟨b,o+j,none⟩).isSome=true
        rw [h2,(each i hi).2.1 c h1,h4];rfl
       ·obtain ⟨i,c,x,h1,h2,h3,h4⟩:=rI _ hz j u hu
        obtain ⟨hi,rfl⟩:=at1 i x h3
        rw [h2,(each i hi).2.1 c h1,h4]
   ·cases h
  ·cases h
theorem zh {n m:Nat}{t:TypeId}{ts:List TypeId}{ss:List SH}{fs:Array Field}{r:Reach}{b0:Nat}{v:Value}{d:DataW H}{p:List MemPlace}(ht:P.underlying t=some (.struct fs))(hts:jK P n t=some ts)(hlt:P.cellsOf t=ts.length)(hss:pf (td P m) ts=some ss)
  (hv:okWide P w r b0 t v) (h:Trod enc P w base (λ_=>true) held t v d p):∃xs,VR (io w) w (.agg xs) v∧cX ss xs:=by
 obtain ⟨⟨cs⟩,rfl,hsz⟩:=okWide_struct ht hv
 obtain ⟨fuel,hf⟩:=h
 have hl:cs.length=ts.length:=by rw [←hlt];simpa using hsz
 obtain ⟨_,xs,h1,h2⟩:=rJ (λt sh h=>pg m t sh h) ts ss cs hss hl (pd n fuel t ts cs _ hts hl hf)
 exact ⟨xs,.mk_agg h1,h2⟩
def xI (P:Program)(n:Nat)(t:TypeId):Option (List SH):=match jK P n t with
 |some ts=>bif beq (P.cellsOf t) ts.length then pf (td P n) ts else none
 |none=>none
theorem pi {n:Nat}{t:TypeId}{ss:List SH}{fs:Array Field}{r:Reach}{b0:Nat}{v:Value}{d:DataW H}{p:List MemPlace}(hs:xI P n t=some ss)(ht:P.underlying t=some (.struct fs))
  (hv:okWide P w r b0 t v) (h:Trod enc P w base (λ_=>true) held t v d p):∃xs,VR (io w) w (.agg xs) v∧cX ss xs:=by
 unfold xI at hs
 split at hs
 ·rename_i ts hts
  cases hb:beq (P.cellsOf t) ts.length with
  |false=>rw [hb] at hs;cases hs
  |true=>
   rw [hb] at hs
   exact zh ht hts (eq_of_beq_eq_true hb) hs hv h
 ·cases hs
theorem Bi {m:Nat}{t:TypeId}{sh:SH}{r:Reach}{b0:Nat}{v:Value}{d:DataW H}{p:List MemPlace}(hs:td P m t=some sh)
  (hv:okWide P w r b0 t v) (h:Trod enc P w base (λ_=>true) held t v d p):∃x,VR (io w) w x v∧sh.Fits x:=by
 have hc:v.cells.toList= [v]:=by
  cases m with
  |zero=>simp [td] at hs
  |succ m=>
   simp only [td] at hs
   unfold okWide at hv
   split at hs
   ·rename_i k hk
    rw [hk] at hv
    simp only [Cell.okWide,hk] at hv
    cases v<;>simp [Cell.ok,hk] at hv<;>rfl
   ·rename_i hk
    rw [hk] at hv
    simp only [Cell.okWide,hk] at hv
    cases v<;>simp [Cell.ok,hk] at hv<;>rfl
   ·rename_i hk
    rw [hk] at hv
    simp only [Cell.okWide,hk] at hv
    cases v<;>simp [Cell.ok,hk] at hv<;>rfl
   ·rename_i e hk
    obtain ⟨qq,n,c,rfl⟩:=okWide_slice hk (by unfold okWide;exact hv)
    rfl
   ·cases hs
 obtain ⟨fuel,hf⟩:=h
 rw [hc] at hf
 exact (pg m t sh hs v fuel _ hf).2
end
end
end Go.Proofs.YtgboehkdijjnkaaGreatDoor
namespace Go.Proofs
open Go.RowKit
open _root_.Array (getElem?_push replicate size_push)
open Go.BinOp (eql)
open _root_.Bool (and_eq_true)
open Go.Calls (mono)
open Go.DataW (Trod trod)
open Go.Fence (wide)
open Go.Frame (atR)
open _root_.Function (comp)
open Go.IntKind (i64 u32 wrap)
open _root_.List (find?_cons find?_eq_none find?_some flatten_cons getElem?_eq_getElem getElem?_map getElem?_set length length_cons length_map length_nil length_take map_congr_left map_cons map_id map_map map_nil mem_append mem_cons mem_cons_of_mem mem_cons_self mem_map mem_map_of_mem mem_singleton nodup_append nodup_cons nodup_nil take_length take_succ_cons take_zero zipWith zipWith_cons_cons)
open _root_.Nat (beq beq_refl ble eq_of_beq_eq_true le_of_ble_eq_true le_refl le_trans lt_or_ge min_le_right not_lt_zero zero_add zero_le)
open _root_.Option (map_eq_some_iff map_some)
open Go.Region (wanted)
open Go.Proofs.Tryz (func108 func95 isAgg0 isAgg158 isAgg25 isAgg3 isAgg4 isAgg52 prog sizeOf0 sizeOf158 sizeOf25 sizeOf3 sizeOf4 underlying0 underlying25 underlying3 underlying4 zeroValue0 zeroValue158 zeroValue25 zeroValue3 zeroValue4)
open Go.Value (okWide)
open Go.World (alloc_heap_new cell? putObj_size)
open Go.Shelf
def Tryz.keysI_ren:Go.Shelf.Ren:=⟨λ| 7=>97 | 10=>108 | n=>n,λ| 23=>123 | 26=>3 | 3=>62 | 28=>158 | 0=>0 | 27=>157 | 33=>52 | 4=>4 | n=>n,λ| n=>n⟩
theorem Tryz.keysI:Go.Proofs.SlLaysZI.n7 prog Tryz.keysI_ren:={
 mixed:=by kernel_rfl
 f7:=⟨Tryz.f97.name,by decide,Tryz.func97.trans (congrArg some (by kernel_rfl))⟩
 f10:=⟨Tryz.f108.name,by decide,func108.trans (congrArg some (by kernel_rfl))⟩
 t0:=underlying0
 a0:=isAgg0
 z0:=sizeOf0
 v0:=zeroValue0
 t4:=underlying4
 a4:=isAgg4
 z4:=sizeOf4
 v4:=zeroValue4
 t23:=Tryz.underlying123
 a23:=Tryz.isAgg123
 z23:=Tryz.sizeOf123
 v23:=Tryz.zeroValue123
 t26:=underlying3
 a26:=isAgg3
 z26:=sizeOf3
 v26:=zeroValue3
 t27:=Tryz.underlying157
 a27:=Tryz.isAgg157
 z27:=Tryz.sizeOf157
 v27:=Tryz.zeroValue157
 t28:=Tryz.underlying158
 a28:=isAgg158
 z28:=sizeOf158
 v28:=zeroValue158
 t33:=Tryz.underlying52
 a33:=isAgg52
 z33:=Tryz.sizeOf52
 v33:=Tryz.zeroValue52}
def Tryz.keysP_ren:Go.Shelf.Ren:=⟨λ| 7=>80 | 10=>96 | n=>n,λ| 23=>108 | 26=>3 | 3=>103 | 28=>158 | 0=>0 | 27=>157 | 33=>52 | 4=>4 | n=>n,λ| n=>n⟩
theorem Tryz.keysP:Go.Proofs.SlLaysZI.n7 prog Tryz.keysP_ren:={
 mixed:=by kernel_rfl
 f7:=⟨Tryz.f80.name,by decide,Tryz.func80.trans (congrArg some (by kernel_rfl))⟩
 f10:=⟨Tryz.f96.name,by decide,Tryz.func96.trans (congrArg some (by kernel_rfl))⟩
 t0:=underlying0
 a0:=isAgg0
 z0:=sizeOf0
 v0:=zeroValue0
 t4:=underlying4
 a4:=isAgg4
 z4:=sizeOf4
 v4:=zeroValue4
 t23:=Tryz.underlying108
 a23:=Tryz.isAgg108
 z23:=Tryz.sizeOf108
 v23:=Tryz.zeroValue108
 t26:=underlying3
 a26:=isAgg3
 z26:=sizeOf3
 v26:=zeroValue3
 t27:=Tryz.underlying157
 a27:=Tryz.isAgg157
 z27:=Tryz.sizeOf157
 v27:=Tryz.zeroValue157
 t28:=Tryz.underlying158
 a28:=isAgg158
 z28:=sizeOf158
 v28:=zeroValue158
 t33:=Tryz.underlying52
 a33:=isAgg52
 z33:=Tryz.sizeOf52
 v33:=Tryz.zeroValue52}
def Tryz.sortedI_ren:Go.Shelf.Ren:=⟨λ| 6=>79 | 8=>94 | 9=>95 | 11=>106 | 13=>100 | 12=>107 | 23=>117 | 24=>118 | 14=>132 | 15=>133 | 16=>134 | 17=>135 | 18=>136 | 19=>137 | 20=>138 | 21=>139 | 22=>140 | 25=>153 | 26=>142 | 27=>143 | 28=>154 | 29=>155 | 30=>98 | 31=>160 | n=>n,λ| 26=>3 | 28=>158 | 24=>25 | 0=>0 | 3=>3 | 37=>72 | 48=>29 | 50=>53 | 4=>4 | 40=>181 | 39=>180 | 45=>116 | 5=>5 | 9=>9 | 51=>203 | 55=>207 | 57=>216 | 58=>217 | 33=>52 | n=>n,λ| n=>n⟩
theorem Tryz.sortedI:Go.Proofs.SlLaysZI.n6 prog Tryz.sortedI_ren:={
 mixed:=by kernel_rfl
 f6:=⟨Tryz.f79.name,by decide,Tryz.func79.trans (congrArg some (by kernel_rfl))⟩
 f8:=⟨Tryz.f94.name,by decide,Tryz.func94.trans (congrArg some (by kernel_rfl))⟩
 f11:=⟨Tryz.f106.name,by decide,Tryz.func106.trans (congrArg some (by kernel_rfl))⟩
 t0:=underlying0
 a0:=isAgg0
 z0:=sizeOf0
 v0:=zeroValue0
 t24:=underlying25
 a24:=isAgg25
 z24:=sizeOf25
 v24:=zeroValue25
 t26:=underlying3
 a26:=isAgg3
 z26:=sizeOf3
 v26:=zeroValue3
 t28:=Tryz.underlying158
 a28:=isAgg158
 z28:=sizeOf158
 v28:=zeroValue158
 i26:=by kernel_rfl}
def Tryz.sortI_ren:Go.Shelf.Ren:=⟨λ| 5=>95 | 8=>100 | 7=>107 | 19=>117 | 20=>118 | 10=>132 | 11=>133 | 12=>134 | 13=>135 | 14=>136 | 15=>137 | 16=>138 | 17=>139 | 18=>140 | 30=>153 | 31=>142 | 32=>143 | 33=>154 | 34=>155 | 35=>98 | 40=>160 | n=>n,λ| 23=>25 | 25=>3 | 3=>3 | 32=>72 | 22=>25 | 0=>0 | 44=>29 | 46=>53 | 4=>4 | 36=>181 | 35=>180 | 41=>116 | 5=>5 | 9=>9 | 53=>203 | 57=>207 | 63=>216 | 64=>217 | n=>n,λ| n=>n⟩
theorem Tryz.sortI:Go.Proofs.SlLaysM.n5 prog Tryz.sortI_ren:={
 mixed:=by kernel_rfl
 f5:=⟨Tryz.f95.name,by decide,func95.trans (congrArg some (by kernel_rfl))⟩
 f7:=⟨Tryz.f107.name,by decide,Tryz.func107.trans (congrArg some (by kernel_rfl))⟩
 f8:=Tryz.func100.trans (congrArg some (by kernel_rfl))
 f10:=⟨Tryz.f132.name,by decide,Tryz.func132.trans (congrArg some (by kernel_rfl))⟩
 f11:=⟨Tryz.f133.name,by decide,Tryz.func133.trans (congrArg some (by kernel_rfl))⟩
 f12:=⟨Tryz.f134.name,by decide,Tryz.func134.trans (congrArg some (by kernel_rfl))⟩
 f13:=⟨Tryz.f135.name,by decide,Tryz.func135.trans (congrArg some (by kernel_rfl))⟩
 f14:=⟨Tryz.f136.name,by decide,Tryz.func136.trans (congrArg some (by kernel_rfl))⟩
 f15:=⟨Tryz.f137.name,by decide,Tryz.func137.trans (congrArg some (by kernel_rfl))⟩
 f16:=⟨Tryz.f138.name,by decide,Tryz.func138.trans (congrArg some (by kernel_rfl))⟩
 f17:=⟨Tryz.f139.name,by decide,Tryz.func139.trans (congrArg some (by kernel_rfl))⟩
 f18:=⟨Tryz.f140.name,by decide,Tryz.func140.trans (congrArg some (by kernel_rfl))⟩
 f19:=Tryz.func117.trans (congrArg some (by kernel_rfl))
 f20:=Tryz.func118.trans (congrArg some (by kernel_rfl))
 f30:=⟨Tryz.f153.name,by decide,Tryz.func153.trans (congrArg some (by kernel_rfl))⟩
 f31:=Tryz.func142.trans (congrArg some (by kernel_rfl))
 f32:=Tryz.func143.trans (congrArg some (by kernel_rfl))
 f33:=⟨Tryz.f154.name,by decide,Tryz.func154.trans (congrArg some (by kernel_rfl))⟩
 f34:=⟨Tryz.f155.name,by decide,Tryz.func155.trans (congrArg some (by kernel_rfl))⟩
 f35:=⟨Tryz.f98.name,by decide,Tryz.func98.trans (congrArg some (by kernel_rfl))⟩
 f40:=⟨Tryz.f160.name,by decide,Tryz.func160.trans (congrArg some (by kernel_rfl))⟩
 t0:=underlying0
 a0:=isAgg0
 z0:=sizeOf0
 v0:=zeroValue0
 t3:=underlying3
 a3:=isAgg3
 z3:=sizeOf3
 v3:=zeroValue3
 t4:=underlying4
 a4:=isAgg4
 z4:=sizeOf4
 v4:=zeroValue4
 t5:=Tryz.underlying5
 a5:=Tryz.isAgg5
 z5:=Tryz.sizeOf5
 v5:=Tryz.zeroValue5
 t9:=Tryz.underlying9
 a9:=Tryz.isAgg9
 z9:=Tryz.sizeOf9
 v9:=Tryz.zeroValue9
 t22:=underlying25
 a22:=isAgg25
 z22:=sizeOf25
 v22:=zeroValue25
 t23:=underlying25
 a23:=isAgg25
 z23:=sizeOf25
 v23:=zeroValue25
 t25:=underlying3
 a25:=isAgg3
 z25:=sizeOf3
 v25:=zeroValue3
 t32:=Tryz.underlying72
 a32:=Tryz.isAgg72
 z32:=Tryz.sizeOf72
 v32:=Tryz.zeroValue72
 t35:=Tryz.underlying180
 a35:=Tryz.isAgg180
 z35:=Tryz.sizeOf180
 v35:=Tryz.zeroValue180
 t36:=Tryz.underlying181
 a36:=Tryz.isAgg181
 z36:=Tryz.sizeOf181
 v36:=Tryz.zeroValue181
 t41:=Tryz.underlying116
 a41:=Tryz.isAgg116
 z41:=Tryz.sizeOf116
 v41:=Tryz.zeroValue116
 t44:=Tryz.underlying29
 a44:=Tryz.isAgg29
 z44:=Tryz.sizeOf29
 v44:=Tryz.zeroValue29
 t46:=Tryz.underlying53
 a46:=Tryz.isAgg53
 z46:=Tryz.sizeOf53
 v46:=Tryz.zeroValue53
 t53:=Tryz.underlying203
 a53:=Tryz.isAgg203
 z53:=Tryz.sizeOf203
 v53:=Tryz.zeroValue203
 t57:=Tryz.underlying207
 a57:=Tryz.isAgg207
 z57:=Tryz.sizeOf207
 v57:=Tryz.zeroValue207
 t63:=Tryz.underlying216
 a63:=Tryz.isAgg216
 z63:=Tryz.sizeOf216
 v63:=Tryz.zeroValue216
 t64:=Tryz.underlying217
 a64:=Tryz.isAgg217
 z64:=Tryz.sizeOf217
 v64:=Tryz.zeroValue217}
end Go.Proofs
namespace Go.Proofs.YtgboehkdijjnkaaGreatDoor
open Go.RowKit
open _root_.Array (getElem?_push replicate size_push)
open Go.BinOp (eql)
open _root_.Bool (and_eq_true)
open Go.Calls (mono)
open Go.DataW (Trod trod)
open Go.Fence (wide)
open Go.Frame (atR)
open _root_.Function (comp)
open Go.IntKind (i64 u32 wrap)
open _root_.List (find?_cons find?_eq_none find?_some flatten_cons getElem?_eq_getElem getElem?_map getElem?_set length length_cons length_map length_nil length_take map_congr_left map_cons map_id map_map map_nil mem_append mem_cons mem_cons_of_mem mem_cons_self mem_map mem_map_of_mem mem_singleton nodup_append nodup_cons nodup_nil take_length take_succ_cons take_zero zipWith zipWith_cons_cons)
open _root_.Nat (beq beq_refl ble eq_of_beq_eq_true le_of_ble_eq_true le_refl le_trans lt_or_ge min_le_right not_lt_zero zero_add zero_le)
open _root_.Option (map_eq_some_iff map_some)
open Go.Region (wanted)
open Go.Proofs.Tryz (func108 func95 isAgg0 isAgg158 isAgg25 isAgg3 isAgg4 isAgg52 prog sizeOf0 sizeOf158 sizeOf25 sizeOf3 sizeOf4 underlying0 underlying25 underlying3 underlying4 zeroValue0 zeroValue158 zeroValue25 zeroValue3 zeroValue4)
open Go.Value (okWide)
open Go.World (alloc_heap_new cell? putObj_size)
section
open Go.RowKit
section
variable {P:Program}{G:aD}
def qr:List Nat→List TV→Nat→Option TV
 |k::ks,v::vs,i=>bif beq k i then some v else qr ks vs i
 |_,_,_=>none
def g9 (n:Nat)(keys:List Nat)(vs:List TV):List (Option TV):=(List.range n).map (qr keys vs)
def ay (n:Nat)(keys:List Nat)(vs:List TV):List TV:=jx (g9 n keys vs)
def pick (keys:List Nat)(σ:List TV):List TV:=keys.map λt=>σ.getD t .dead
theorem tf (σ:List TV):∀(keys:List Nat) (i:Nat) (x:TV),qr keys (pick keys σ) i=some x→x=σ.getD i .dead
 |[],_,_,h=>by simp [qr,pick] at h
 |k::ks,i,x,h=>by
  simp only [pick,map_cons,qr] at h
  cases hb:beq k i with
  |true=>
   rw [hb] at h
   have:=eq_of_beq_eq_true hb
   subst this
   injection h with h;exact h.symm
  |false=>rw [hb] at h;exact tf σ ks i x h
theorem xJ:∀(σ:List TV) (m:List (Option TV)),m.length=σ.length→(∀(i:Nat) x,m[i]?=some (some x)→x=σ.getD i .dead)→LEs σ m
 |[],[],_,_=>trivial
 |[],_::_,h,_=>by simp at h
 |_::_,[],h,_=>by simp at h
 |x::l,none::m,h,k=>xJ l m (by simpa using h) λi y hy=>by simpa using k (i+1) y (by simpa using hy)
 |x::l,some y::m,h,k=>⟨by simpa using (k 0 y rfl).symm,xJ l m (by simpa using h) λi y hy=>by simpa using k (i+1) y (by simpa using hy)⟩
theorem nM (σ:List TV)(keys:List Nat):LEs σ (g9 σ.length keys (pick keys σ)):=by
 refine xJ _ _ (by simp [g9]) λi x hx=> ?_
 simp only [g9,getElem?_map,map_eq_some_iff] at hx
 obtain ⟨j,hj,hx⟩:=hx
 have e:j=i:=by
  have:=(List.getElem?_eq_some_iff.1 hj).2
  simpa using this.symm
 subst e
 exact tf σ keys j x hx
theorem EL (f h:Nat→Option Nat)(keys:List Nat)(σ:List TV):pick keys (av f h σ)=av f h (pick keys σ):=by
 simp only [pick,c7,map_map]
 refine map_congr_left λt _=> ?_
 simp only [Function.comp_apply,List.getD_eq_getElem?_getD,getElem?_map]
 cases σ[t]?<;>simp [TV.ren]
def dm (keys:List Nat)(Q:Exit→List TV→VT→List Nat→Nat→Prop):KX:=λe σ T D=>Q e (pick keys σ) T D σ.length
theorem VWx.forget {rd:Option Nat}{ro:Nat}{c:Code}{σ:List TV}{T:VT}{n:Nat}{keys:List Nat}{K:KX}{Q:Exit→List TV→VT→Prop}(h:VWx P G rd ro c σ T [] (dm keys λe vs T D m=>D= []∧m=n∧Q e vs T))
  (k:∀e vs T,Q e vs T→K e (ay n keys vs) T []):VWx P G rd ro c σ T [] K:=by
 intro r g w a rw0 hG hσ hd hD hr
 refine wpIn_mono (h r g w a rw0 hG hσ hd hD hr) ?_
 rintro e a' w' ⟨g',σ',T',D',⟨rfl,rfl,hq⟩,e',r',hσ',h⟩
 exact ⟨g',_,T',[],k _ _ _ hq,e',r',(nM σ' keys).ok hσ',h⟩
def qt {ι:Type}(n id:Nat)(μ:ι→Nat)(sl:ι→List TV)(tt:ι→VT)(Inv:ι→Prop)(N M:Nat)(s:ι)(Post:Exit→List TV→VT→Prop):Exit→List TV→VT→List Nat→Nat→Prop:=λe vs T D m=>D= []∧m=n∧match e with
 | .normal=>∃s',Inv s'∧μ s' <μ s∧((T=tt s'∧vs=sl s')∨(T.keep N M=tt s'∧av (ai N) (ai M) vs=sl s'))
 | .exit i=>cond (beq i id) (Post .normal vs T) (Post (.exit i) vs T)
 |e=>Post e vs T
theorem fv {ι:Type}{f:FuncId}{id:Nat}(hc:jw id (ax P f id)=true)(n:Nat)(keys:List Nat)(μ:ι→Nat)(sl:ι→List TV)(tt:ι→VT)(Inv:ι→Prop)(N M:Nat)(hN:∀s,Inv s→(tt s).objs.length≤N∧(tt s).tails.length≤M)(Post:Exit→List TV→VT→Prop)
  (hbody:∀s,Inv s→VWx P G none 0 (dj P f id) (ay n keys (sl s)) (tt s) [] (dm keys (qt n id μ sl tt Inv N M s Post))):
  ∀s,Inv s→∀K:KX,(∀e vs T,Post e vs T→K e (ay n keys vs) T [])→VWx P G none 0 (ax P f id) (ay n keys (sl s)) (tt s) [] K:=by
 intro s hs K hK
 refine VWx.forget (n:=n) (keys:=keys) (Q:=Post) ?_ hK
 refine VWx.blockS hc μ (λs=>g9 n keys (sl s)) tt Inv N M hN (by simp) (λs hs=>(hbody s hs).mono λe σ T D hq=> ?_) s hs
 obtain ⟨rfl,hm,hq⟩:=hq
 cases e
 case normal=>
  refine ⟨rfl,?_⟩
  obtain ⟨s',h1,h2,h3⟩:=hq
  refine ⟨s',h1,h2,?_⟩
  rcases h3 with ⟨h3,h4⟩ | ⟨h3,h4⟩
  ·left;refine ⟨h3,?_⟩
   show LEs σ (g9 n keys (sl s'))
   rw [←h4,←hm];exact nM σ keys
  ·right;refine ⟨h3,?_⟩
   show LEs _ (g9 n keys (sl s'))
   rw [←h4,←EL,←hm]
   have:=nM (av (ai N) (ai M) σ) keys
   rwa [show (av (ai N) (ai M) σ).length=σ.length by rw [c7];simp] at this
 case exit i=>
  simp only [nE,oW]
  simp only at hq
  cases hb:beq i id<;>rw [hb] at hq
  ·exact ⟨rfl,hm,hq⟩
  ·exact ⟨rfl,hm,hq⟩
 all_goals exact ⟨rfl,hm,hq⟩
theorem VWx.adopt {rd:Option Nat}{ro:Nat}{c:Code}{σ:List TV}{T:VT}{D:List Nat}{Q:KX}(d size:Nat)(hd:σ[d]?=some (.val (.slice none 0 0)))
  (h:VWx P G rd ro c (σ.set d (.vec size [] (.tail T.tails.length 0))) {T with tails:=T.tails++ [(0,size,true)]} D Q):VWx P G rd ro c σ T D Q:=by
 intro r g w a rw0 hG hσ hdf hDs hrd
 obtain ⟨g1,e1,r1,ht⟩:=rw0.newTail size true
 obtain ⟨u,hu,hv⟩:=hσ.at hd
 have hv':=hv.val_inv
 subst hv'
 have h2:=(hσ.mono e1).set d (x:=.vec size [] (.tail T.tails.length 0)) (u:=.slice none 0 0) (.nil ⟨_,ht,le_refl _,rfl⟩)
 have h3:a.tmps.toList.set d (.slice none 0 0)=a.tmps.toList:=by
  apply List.ext_getElem?
  intro j
  rw [getElem?_set]
  split
  ·rename_i hj;subst hj;rw [hu,if_pos (List.getElem?_eq_some_iff.1 hu).1]
  ·rfl
 rw [h3] at h2
 refine wpIn_mono (h r g1 w a r1 (hG.mono e1) h2 (hdf.trans (jF e1 hDs).symm) (eB e1 hDs) (xd e1 hrd)) ?_
 rintro e a' w' ⟨g',σ',T',D',hq,e2,r',hσ',hd',hD',hx⟩
 exact ⟨g',σ',T',D',hq,e1.trans e2,r',hσ',hd',hD',⟨hx.len,λi hi hl=>hx.same i hi hl,λi o b hi ho hl hb=>hx.heap i o b hi ho hl (e1.obj i b hb)⟩⟩
def eP:List (Nat × Nat)→List TV→VT→List TV × VT
 |[],σ,T=>(σ,T)
 |p::l,σ,T=>eP l (σ.set p.1 (.vec p.2 [] (.tail T.tails.length 0))) {T with tails:=T.tails++ [(0,p.2,true)]}
def qv:List (Nat × Nat)→List TV→Prop
 |[],_=>True
 |p::l,σ=>σ[p.1]?=some (.val (.slice none 0 0))∧qv l (σ.set p.1 .dead)
def ig (n:Nat)(keys:List Nat)(ad:List (Nat × Nat))(vs0:List TV)(T0:VT)(R:KX→Prop):bH:=λrd ro σ T D K=>(rd=none∧ro=0∧D= []∧qv ad σ∧(eP ad σ T).2=T0∧beq σ.length n=true∧pick keys (eP ad σ T).1=vs0)∧R K
theorem vF {rd:Option Nat}{ro:Nat}{c:Code}{D:List Nat}{Q:KX}:∀(ad:List (Nat × Nat)) (σ σ':List TV) (T:VT),qv ad σ'→(∀(i:Nat),σ'[i]?=some (.val (.slice none 0 0))→σ[i]?=some (.val (.slice none 0 0)))→σ.length=σ'.length→
  VWx P G rd ro c (eP ad σ T).1 (eP ad σ T).2 D Q→VWx P G rd ro c σ T D Q
 |[],_,_,_,_,_,_,h=>h
 |p::l,σ,σ',T,ho,hs,hl,h=>by
  obtain ⟨h1,h2⟩:=ho
  refine VWx.adopt p.1 p.2 (hs _ h1) (vF l _ (σ'.set p.1 .dead) _ h2 (λi hi=> ?_) (by simpa using hl) h)
  rw [getElem?_set] at hi ⊢
  split
  ·rename_i e;subst e;rw [if_pos rfl] at hi;split at hi<;>simp at hi
  ·rename_i e;rw [if_neg e] at hi;exact hs i hi
theorem pj:∀(ad:List (Nat × Nat)) (σ:List TV) (T:VT),(eP ad σ T).1.length=σ.length
 |[],_,_=>rfl
 |p::l,σ,T=>by rw [eP,pj l];simp
theorem dA {c:Code}{n:Nat}{keys:List Nat}{ad:List (Nat × Nat)}{vs0:List TV}{T0:VT}{R:KX→Prop}(h:∀K,R K→VWx P G none 0 c (ay n keys vs0) T0 [] K):
  ∀rd ro σ T D K,ig n keys ad vs0 T0 R rd ro σ T D K→VWx P G rd ro c σ T D K:=by
 rintro rd ro σ T D K ⟨⟨rfl,rfl,rfl,ha,rfl,hn,rfl⟩,hR⟩
 obtain rfl:=eq_of_beq_eq_true hn
 refine vF ad σ σ T ha (λ_ h=>h) rfl ((h K hR).sub λg w us hu=> ?_)
 have:=(nM (eP ad σ T).1 keys).ok hu
 rwa [pj] at this
def dk:List (Nat × bH × Code)→Nat→Option (bH × Code)
 |[],_=>none
 | (i,W,c)::l,j=>bif beq i j then some (W,c) else dk l j
theorem cq:∀{l:List (Nat × bH × Code)},(∀p∈l,∀rd ro σ T D K,p.2.1 rd ro σ T D K→VWx P G rd ro p.2.2 σ T D K)→ek P G (dk l)
 |[],_=>λ_ _ _ h=>by cases h
 | (i,W,c)::l,h=>λj W' c' hW=>by
  simp only [dk] at hW
  cases hb:beq i j with
  |true=>
   rw [hb] at hW
   injection hW with hW;injection hW with h1 h2;subst h1 h2
   exact h _ mem_cons_self
  |false=>
   rw [hb] at hW
   exact cq (λp hp=>h p (mem_cons_of_mem _ hp)) j W' c' hW

def hJ (xs:List TV)(y:TV):ba:=λ_ ys T K=>ys=xs∧K y T
theorem vG {f:FuncId}{xs:List TV}{y:TV}(hv:nL G)(hx:av (aj []) (aj []) xs=xs)(hy:∀f h,y.ren f h=y)(h:VCx P G 0 f xs ⟨[],[]⟩ λx T'=>x=y∧T'=⟨[],[]⟩):
  ∀ro ys T K,hJ xs y ro ys T K→VCx P G ro f ys T K:=by
 rintro ro ys T K ⟨rfl,hk⟩
 exact VCx.liftPure hv h hx hy hk
theorem VCx.ofCalls {f:FuncId}{xs:List TV}{y:TV}(hx:av (aj []) (aj []) xs=xs)(h:VCalls P f xs ⟨[],[]⟩ λx T'=>x=y∧T'=⟨[],[]⟩)(hy:∀f h,y.ren f h=y):VCx P G 0 f xs ⟨[],[]⟩ λx T'=>x=y∧T'=⟨[],[]⟩:=
 (VCx.of_pure (T:=⟨[],[]⟩) h hx).mono λx T' hq=>by
  obtain ⟨h1,h2⟩:=hq
  exact ⟨by rw [h1,hy],h2⟩

theorem cn {C:FuncId→Option ba}(hm:P.follows .mixedOrders=true)(hB:gt P=true)(hC:aQ P G C){F:iR}{n:Nat}{L:Nat→Option (bH × Code)}(hL:ek P G L){rd:Option Nat}{ro:Nat}{c:Code}{σ:List TV}{T:VT}{D:List Nat}{K:KX}{X:Prop}
 (h:vx P G C F n L rd ro c σ T D K=X) (hx:X):VWx P G rd ro c σ T D K:=wA hm hB hC n n (le_refl _) F L hL _ _ _ _ _ _ _ (by rw [h];exact hx)
theorem ap {C:FuncId→Option ba}(hm:P.follows .mixedOrders=true)(hB:gt P=true)(hC:aQ P G C){F:iR}{n:Nat}{L:Nat→Option (bH × Code)}(hL:ek P G L){ro:Nat}{f:FuncId}{xs:List TV}{T:VT}{K:TV→VT→Prop}{X:Prop}
 (h:aH P G C F n L ro f xs T K=X) (hx:X):VCx P G ro f xs T K:=vD hm hB hC hL (by rw [h];exact hx)
def FO:List (Nat × TV)→Nat→Option (TV × Option VT)
 |[],_=>none
 | (t,x)::l,s=>bif beq t s then some (x,none) else FO l s
def Ia (l:List (Nat × TV)):iR:=λo _ _=>match o.dst with
 |some d=>FO l d
 |none=>none
theorem Bj {t e:TypeId}{inf:TypeInfo}{es:List (List TV)}{tok:Tok}{k:IntKind}{z:Int}{cs:List TV}(ht:P.underlying t=some (.slice e))(hi:P.info? e=some inf)(h0:0≤z)(he:es[z.toNat]?=some cs):
  fp P t (.vec inf.size es tok) (.val (.int k z))=some (.elt cs):=by
 simp [fp,ht,hi,h0,he]
theorem dN {t e:TypeId}{x i:Operand}{l:List (Nat × TV)}{inf:TypeInfo}{es:List (List TV)}{tok:Tok}{k:IntKind}{z:Int}{cs:List TV}(ht:P.underlying t=some (.slice e))(hi:P.info? e=some inf)
  (hx:aq G l x=.vec inf.size es tok) (hz:aq G l i=.val (.int k z)) (h0:0≤z) (he:es[z.toNat]?=some cs):aJ P G (.indexAddr t x i) l (.elt cs):=by
 refine ⟨?_⟩
 simp only [aR,hx,hz,mQ,Bj ht hi h0 he]
end
end
section
open Go.RowKit
section
variable {P:Program}{G:aD}
theorem rK {t e:TypeId}{x i:Operand}{l:List (Nat × TV)}{inf:TypeInfo}{es:List (List TV)}{tok:Tok}{k:IntKind}{z:Int}(ht:P.underlying t=some (.slice e))(hi:P.info? e=some inf)
  (hx:aq G l x=.vec inf.size es tok) (hz:aq G l i=.val (.int k z)) (h0:0≤z) (he:z.toNat≤es.length):aJ P G (.slice t x none (some i) none) l (.vec inf.size (es.take z.toNat) .none):=by
 refine ⟨?_⟩
 simp [aR,hx,hz,mU,mR,mS,kP,ht,hi,gJ,fq,h0,he]
theorem rL {t e:TypeId}{x i:Operand}{l:List (Nat × TV)}{inf:TypeInfo}{es:List (List TV)}{tok:Tok}{k:IntKind}{z:Int}(ht:P.underlying t=some (.slice e))(hi:P.info? e=some inf)
  (hx:aq G l x=.vec inf.size es tok) (hz:aq G l i=.val (.int k z)) (h0:0≤z) (he:z.toNat≤es.length):aJ P G (.slice t x (some i) none none) l (.vec inf.size (es.drop z.toNat) tok):=by
 refine ⟨?_⟩
 simp [aR,hx,hz,mU,mR,mS,kP,ht,hi,gJ,fq,h0,he]
theorem iG {ro:Nat}{T T1:VT}{t e tx:TypeId}{s x:Operand}{l:List (Nat × TV)}{inf:TypeInfo}{z:Value}{es es2:List (List TV)}{k n:Nat}{bn:Bool}(ht:P.underlying t=some (.slice e))(hi:P.info? e=some inf)(hz:inf.zero=some z)(hzs:z.cells.size=inf.size)(hp:0<inf.size)
  (hsl:gf (P.underlying tx)=true) (hs:cw T inf.size (aq G l s)=some (es,k,n,bn,T1)) (hx:gL inf.size (aq G l x)=some es2) (hb:(es.length+es2.length)*(inf.bytes+1)≤140737488355328):
  aM P G ro T (.call ⟨.builtin .append,#[s,x],#[t,tx]⟩) l (.vec inf.size (es++es2) (.tail k (n+es2.length))) {T1 with tails:=T1.tails.set k (n+es2.length,inf.size,bn)}:=by
 refine .old rfl ?_
 have h1:fK P T t tx (aq G l s) (aq G l x)=some (.vec inf.size (es++es2) (.tail k (n+es2.length)),{T1 with tails:=T1.tails.set k (n+es2.length,inf.size,bn)}):=by
  simp [fK,ht,hi,hz,hs,hx,hzs,hp,hsl,hb]
 simp [qH,cM,mM,kS,h1]
end
end
section
open Go.RowKit
section
variable {P:Program}{G:aD}
theorem aA {b:Bool}{X Y:Prop}(h:b=false)(k:Y):cond b X Y:=by subst h;exact k
theorem aZ {b:Bool}{X Y:Prop}(h:b=true)(k:X):cond b X Y:=by subst h;exact k
end
end
section
open Go.RowKit
section
variable {P:Program}{G:aD}
theorem CL (vs:List Value):(vs.map λv=> [TV.val v]).flatten=vs.map .val:=by
 induction vs with
 |nil=>rfl
 |cons a l ih=>simp [ih]
end
end
section
open Go.RowKit Go.Maps Go.Sort Go.Shelf
abbrev vH:=79
abbrev ug:=108
theorem CM (m:Nat):AnyZI.SortsIn prog Tryz.sortedI_ren wide m:=
 ⟨λblk off cap ss W hH hblk hsz=>callsIn_wide.2 (AnyM.slices_Sort_int Tryz.sortI blk off cap ss W hH hblk hsz),
 λp cap W=>callsIn_wide.2 (AnyM.slices_Sort_int_none Tryz.sortI p cap W)⟩
def ld (_:Value):Option (DataW Unit × List MemPlace):=some (.nil,[])
def aC (z:Int):Value:=.int .i64 z
theorem EM {z:Int}(h:0≤z∧z<1000):(Lit.int .i64 z).wf=true:=by
 simp only [Lit.wf]
 have e0:i64.min=-9223372036854775808:=by decide
 have e1:i64.max=9223372036854775807:=by decide
 simp [e0,e1];omega
theorem xK {x:MapEntry}{z:Int}(hx:x.key=aC z)(h:0≤z∧z<1000):Go.WideElems.rd prog 3 ld x=some (.int .i64 z,.nil):=by
 unfold Go.WideElems.rd
 rw [hx,aC,keyOf_int_mk underlying3 (EM h)]
 rfl
theorem l9 {ms:List MapEntry}{ids:List Int}(hk:ms.map (·.key)=ids.map aC)(hw:∀z∈ids,0≤z∧z<1000):
  (intKeys (.map ((ms.map (Go.WideElems.rg prog 3 ld)).foldr DataW.insert []):DataW Unit)).Perm ids:=by
 have h1:ms.map (Go.WideElems.rg prog 3 ld)=ids.map λz=>(Lit.int .i64 z,(DataW.nil:DataW Unit)):=by
  induction ms generalizing ids with
  |nil=>
   cases ids with
   |nil=>rfl
   |cons z l=>simp at hk
  |cons x ms ih=>
   cases ids with
   |nil=>simp at hk
   |cons z l=>
    simp only [map_cons,List.cons.injEq] at hk ⊢
    refine ⟨?_,ih hk.2 λz hz=>hw z (mem_cons_of_mem _ hz)⟩
    unfold Go.WideElems.rg
    rw [xK hk.1 (hw z mem_cons_self)];rfl
 rw [h1]
 have h2:=Go.WideShapes.sorted_perm (H:=Unit) (ids.map λz=>(Lit.int .i64 z,(DataW.nil:DataW Unit)))
 have h3:=h2.map λp=>Go.intOf p.1
 have h4:(ids.map λz=>(Lit.int .i64 z,(DataW.nil:DataW Unit))).map (λp=>Go.intOf p.1)=ids:=by
  rw [map_map]
  exact (map_congr_left λz _=>rfl).trans (map_id _)
 rw [h4] at h3
 exact h3
theorem Ib {G:aD}{ro k m:Nat}{T:VT}{sh:KS}{look:Value→Option TV}{es:List (Value × TV × Nat)}{ck:Nat}{ids:List Int}(hk0:T.objs[k]?=some (.cells [.map m]))(hm0:T.objs[m]?=some (.map sh look es ck))(hk:es.map (·.1)=ids.map aC)(hw:∀z∈ids,0≤z∧z<1000)(hb1:∀e∈es,e.2.2<ck)(hb2:(es.map (·.2.2)).Nodup)(hn:ids.length≤100):
    VCx prog G ro vH [.fn (.func ug) [] [.ptr k 0]] T λx T'=>x=.vec 1 ((ids.mergeSort leI).map λz=> [.val (aC z)]) .none∧T'=T:=by
  intro g w us r hG hx
  match us,hx.1 with
  |[u],_=>
    obtain ⟨us',vs,rfl,h3,h4⟩:=(hx.2 0 _ u rfl rfl).fn_inv
    have e3:us'= []:=List.eq_nil_of_length_eq_zero h3.1
    subst e3
    match vs,h4 with
    |[v],h4=>
      obtain ⟨Bm,o1,rfl⟩:=(h4.2 0 _ v rfl rfl).ptr_inv
      obtain ⟨B0,p1,⟨us0,t0,p2,p3,_⟩,_,_⟩:=r.obj k _ hk0 rfl
      rw [o1] at p1;injection p1 with p1;subst p1
      obtain ⟨b,q1,⟨ms,q2,q3,q4,q5,q6,q7,q8⟩,_,_⟩:=r.obj m _ hm0 rfl
      have hBm:Bm<w.heap.size:=(Array.getElem?_eq_some_iff.1 p2).1
      have hbl:b<w.heap.size:=(Array.getElem?_eq_some_iff.1 q2).1
      have hcell:w.cell? ⟨Bm,0,none⟩=some (.map (some b)):=by
        match us0,p3 with
        |[x],p3=>
          obtain ⟨b2,r1,rfl⟩:=(p3.2 0 _ x rfl rfl).map_inv
          rw [q1] at r1;injection r1 with r1;subst r1
          simp [cell?,p2]
        |[],p3=>have:=p3.1;simp at this
        |_::_::_,p3=>have:=p3.1;simp at this
      have hkeys:ms.toList.map (·.key)=ids.map aC:=q3.trans hk
      have hlen:ms.toList.length=ids.length:=by have:=congrArg length hkeys;simpa using this
      have hown:w.ownsMap prog 3 ld b ids.length (.map ((ms.toList.map (Go.WideElems.rg prog 3 ld)).foldr DataW.insert [])):=by
        refine ⟨ms,ck,q2,⟨?_,⟨?_,?_,?_⟩,?_⟩,?_,rfl⟩
        · simp only [Array.length_toList] at hlen
          rw [hlen];unfold maxLen;omega
        · intro x hx
          have hm:x.born∈ms.toList.map (·.born):=mem_map_of_mem hx
          rw [q5] at hm
          obtain ⟨e,he,heq⟩:=mem_map.1 hm
          rw [←heq];exact hb1 e he
        · rw [q5];exact hb2
        · rw [q3];exact q7
        · intro x hx
          have hm:x.key∈ms.toList.map (·.key):=mem_map_of_mem hx
          rw [hkeys] at hm
          obtain ⟨z,hz,heq⟩:=mem_map.1 hm
          exact ⟨_,xK heq.symm (hw z hz)⟩
        · simp only [Array.length_toList] at hlen
          omega
      have hsz:Maps.size (.map ((ms.toList.map (Go.WideElems.rg prog 3 ld)).foldr DataW.insert []):DataW Unit)=ids.length:=by
        simp only [Maps.size,DataW.length_sorted,length_map]
        exact hlen
      have hseq:SeqGives wide 2 prog ug #[.pointer (some ⟨Bm,0,none⟩)] encZ (λss=>ss.Perm (intKeys (.map ((ms.toList.map (Go.WideElems.rg prog 3 ld)).foldr DataW.insert []):DataW Unit))) _ w:=
        AnyZI.keys_gives (ρ:=Tryz.keysI_ren) {Tryz.keysI with} wide _ trivial rfl (by omega) Bm b ids.length _ w hBm hcell hown
      have cS:=AnyZI.sorted_in Tryz.sortedI wide 5 trivial trivial trivial trivial rfl (by omega) (CM _) (enters_of func95 (by kernel_rfl) rfl) ug #[.pointer (some ⟨Bm,0,none⟩)] trivial (enters_of func108 (by kernel_rfl) rfl) _ _ (by rw [hsz];unfold maxLen;omega) (by rw [hsz];omega) w hseq
      refine ((callsIn_wide (n:=5)).1 cS).mono ?_
      rintro e w' ⟨v,ss,rfl,hS,⟨hl,hrow⟩,_,gr⟩
      have hsort:ss.mergeSort (λx y=>decide (x≤y))=ids.mergeSort leI:=mergeSort_of_perm_i (hS.trans (l9 hkeys hw))
      have hsl:ss.length=ids.length:=(hS.trans (l9 hkeys hw)).length_eq
      rw [hsort] at hl hrow
      have r1:=r.gr gr
      have e1:=Evo.of_gr r gr
      have hms:(ids.mergeSort leI).length=ids.length:=List.length_mergeSort ids
      rcases hrow with ⟨rfl,h0⟩ | ⟨b',cap,cur,rfl,hb,hg,hnc,hcm,hcs,htk⟩
      · have h1:ids.mergeSort leI= []:=List.eq_nil_of_length_eq_zero (by omega)
        rw [h1]
        exact ⟨_,_,g,_,rfl,⟨rfl,rfl⟩,e1,r1,.nil trivial,Fix.of_same (Same.of_gr r gr) (by simp)⟩
      · have hnf:¬g.fr b':=λhf=>by have:=r.fr b' hf;omega
        have hcell':∀(j:Nat) u,((ids.mergeSort leI).map aC)[j]?=some u→w'.cell? ⟨b',0+j,none⟩=some u:=λj u hu=>by
          unfold cell?
          simp only [hg,zero_add]
          have hu':((ids.mergeSort leI).map encZ)[j]?=some u:=hu
          rw [←htk,List.getElem?_take] at hu'
          split at hu'
          · simpa using hu'
          · cases hu'
        have hfl:((ids.mergeSort leI).map λz=> [TV.val (aC z)]).flatten=((ids.mergeSort leI).map aC).map .val:=by
          have:=CL ((ids.mergeSort leI).map aC)
          rw [map_map] at this
          exact this
        refine ⟨_,_,g.addSt b' (λo=>o<(ids.mergeSort leI).length),_,rfl,⟨rfl,rfl⟩,e1.trans (Evo.addSt hnf),r1.addSt hnf (λid o h hl'=>(r.fresh hb).obj id o h hl') (λk x o hx _ hin=>(r.fresh hb).tl k x hx (.inl ⟨o,hin⟩)) (λo ho=> ?_),?_,Fix.of_same (Same.of_gr r gr) (by simp)⟩
        · have:=hcell' o _ (by rw [getElem?_map,getElem?_eq_getElem ho];rfl)
          rw [zero_add] at this
          rw [this];rfl
        · refine .mk_vec (us:=(ids.mergeSort leI).map aC) (by simp [hms,hsl]) hnc hcm (λe he=>by obtain ⟨z,_,rfl⟩:=mem_map.1 he;rfl) trivial (by rw [hfl];exact VRs.vals _ _ _) (λj hj=>.inr ⟨rfl,?_⟩) hcell' (λu hu=>by obtain ⟨z,_,rfl⟩:=mem_map.1 hu;rfl)
          rw [hfl] at hj
          simpa using hj
    |[],h4=>have:=h4.1;simp at this
    |_::_::_,h4=>have:=h4.1;simp at this
end
section
open Go.RowKit
section
variable {P:Program}{G:aD}{g:Gh}{T:VT}{w:World}
theorem nN (r:RW g T w){id size off n:Nat}{es:List (List TV)}{u:Value}(h:cl T size (.row size id off n)=some es)(hx:VR g w (.row size id off n) u):
  ∃g',Evo g w g' w∧RW g' (T.kill id) w∧VR g' w (.vec size es .none) u:=by
 simp only [cl] at h
 split at h
 ·rename_i cs hid
  cases hb:(beq size size&&ble ((off+n)*size) cs.length) with
  |false=>rw [hb] at h;cases h
  |true=>
   rw [hb] at h;injection h with h;subst h
   simp only [and_eq_true] at hb
   have hle:=le_of_ble_eq_true hb.2
   obtain ⟨b,c,h1,h2,h3,h4,h5,rfl⟩:=hx.row_inv
   obtain ⟨b',q1,⟨us,t,q2,q3,q4,q5⟩,q6,q7⟩:=r.obj id _ hid rfl
   rw [h1] at q1;injection q1 with q1;subst q1
   rw [Nat.add_mul] at hle
   have hl:((cs.drop (off*size)).take (n*size)).length=n*size:=by simp;omega
   obtain ⟨k1,k2,k3⟩:=eK hl
   have hv:=(q4.drop (off*size)).take (n*size)
   have hl2:(((us.take cs.length).drop (off*size)).take (n*size)).length=n*size:=by simp;omega
   have hcell:∀(j:Nat) v,(((us.take cs.length).drop (off*size)).take (n*size))[j]?=some v→w.cell? ⟨b,off*size+j,none⟩=some v:=λj v hv=>by
    rw [cell?,q2]
    simp only [List.getElem?_take,List.getElem?_drop] at hv
    split at hv
    ·split at hv
     ·simpa using hv
     ·cases hv
    ·cases hv
   have fr:=nv r hid rfl h1
   have e:=Evo.addSt (g:=g) (w:=w) (S:=λo=>off*size≤o∧o<off*size+n*size) q6
   refine ⟨_,e,(r.kill hid rfl h1).addSt q6 fr.obj (λk x o hx _ hin=>fr.tl k x hx (.inl ⟨o,hin⟩)) (λo ho=> ?_),?_⟩
   ·have hj:o-off*size<(((us.take cs.length).drop (off*size)).take (n*size)).length:=by rw [hl2];omega
    have:=hcell (o-off*size) _ (getElem?_eq_getElem hj)
    rw [show off*size+(o-off*size)=o by omega] at this
    rw [this];rfl
   ·refine .mk_vec (us:=((us.take cs.length).drop (off*size)).take (n*size)) k1.symm h3 h4 k2 trivial (by rw [k3];exact hv.mono e) (λj hj=>.inr ⟨rfl,?_⟩) hcell (λu hu=>q5 u (List.mem_of_mem_drop (List.mem_of_mem_take hu)))
    rw [k3,hl] at hj
    omega
 ·cases h
end
end
section
open Go.RowKit
section
variable {P:Program}{G:aD}
def xL (T:VT):List (Nat × TV × Option (VT→VT))→Nat→Option (TV × Option VT)
 |[],_=>none
 | (t,y,g)::l,s=>bif beq t s then some (y,match g with | some g=>some (g T) | none=>none) else xL T l s
def bp (l:List (Nat × TV × Option (VT→VT))):iR:=λo _ T=>match o.op with
 | .store _ (.tmp a) _=>xL T l (500000+a)
 |_=>match o.dst with
  |some d=>xL T l d
  |none=>none
theorem pn {t e:TypeId}{x i:Operand}{l:List (Nat × TV)}{inf:TypeInfo}{id off n:Nat}{k:IntKind}{z:Int}(ht:P.underlying t=some (.slice e))(hi:P.info? e=some inf)
  (hx:aq G l x=.row inf.size id off n) (hz:aq G l i=.val (.int k z)) (h0:0≤z) (h1:z<n):aJ P G (.indexAddr t x i) l (.ptr id (off*inf.size+z.toNat*inf.size)):=by
 refine ⟨?_⟩
 simp [aR,hx,hz,mQ,ht,hi,h0,h1,beq_refl]
theorem lf {ro:Nat}{T:VT}{t:TypeId}{a x:Operand}{l:List (Nat × TV)}{inf:TypeInfo}{id off:Nat}{cs new:List TV}(hi:P.info? t=some inf)
  (ha:aq G l a=.ptr id off) (hx:bb (aq G l x)=some new) (ho:T.objs[id]?=some (.row cs)) (hn:inf.size=new.length) (hle:off+new.length≤cs.length) (hc:new.all dD=true) (hro:ro≤id):
  aM P G ro T (.store t a x) l (.val undef) {T with objs:=T.objs.set id (.row (aV cs off new))}:=by
 refine .mk ?_
 have h1:aR P (.store t a x) (aq G l)=none:=by simp [aR,cN]
 have h2:aK P T (.store t a x) (aq G l)=none:=by simp [aK,cM]
 have h3:lR P ro T (.store t a x) (aq G l)=some (.val undef,{T with objs:=T.objs.set id (.row (aV cs off new))}):=by
  simp only [lR,kD,ha,ho,hx,hi]
  rw [hn,beq_refl,Nat.ble_eq_true_of_le hle,hc,Nat.ble_eq_true_of_le hro];rfl
 simp only [eY,h1,h2,h3]
theorem tg {ro:Nat}{T:VT}{t e tx:TypeId}{s x:Operand}{l:List (Nat × TV)}{inf:TypeInfo}{z:Value}{q0:List TV}{qs:List (List TV)}{tok:Tok}(ht:P.underlying t=some (.slice e))(hi:P.info? e=some inf)(hz:inf.zero=some z)(hzs:z.cells.size=inf.size)(hz1:z.cells.toList.all Value.oneCell'=true)
  (hsl:gf (P.underlying tx)=true) (hs:aq G l s=.vec inf.size [] .full) (hx:aq G l x=.vec inf.size (q0::qs) tok) (hb:(q0::qs).length*(inf.bytes+1)≤140737488355328):
  aM P G ro T (.call ⟨.builtin .append,#[s,x],#[t,tx]⟩) l (.row inf.size T.objs.length 0 (q0::qs).length) (T.newRow (q0::qs).flatten):=by
 refine .mk ?_
 have h1:aR P (.call ⟨.builtin .append,#[s,x],#[t,tx]⟩) (aq G l)=none:=by simp [aR,cN]
 have h2:aK P T (.call ⟨.builtin .append,#[s,x],#[t,tx]⟩) (aq G l)=none:=by simp [aK,cM,mM]
 have hr:cl T inf.size (.vec inf.size (q0::qs) tok)=some (q0::qs):=by simp [cl,beq_refl]
 have h4:sL P T t tx (.vec inf.size [] .full) (.vec inf.size (q0::qs) tok)=none:=by simp [sL,ht]
 have h3:sF P ro T t tx (.vec inf.size [] .full) (.vec inf.size (q0::qs) tok)=some (.row inf.size T.objs.length 0 (q0::qs).length,T.newRow (q0::qs).flatten):=by
  unfold sF
  simp only [ht,hi,hz,hr,hzs,decide_true,hz1,hsl,Bool.and_self,cond_true,beq_refl,length_nil,zero_add,List.flatten_nil,List.nil_append,Nat.ble_eq_true_of_le hb]
 have h5:wv P ro T t tx (.vec inf.size [] .full) (.vec inf.size (q0::qs) tok)=none:=rfl
 simp only [eY,h1,h2,lR,hs,hx,hsl,h4,h5,h3,cond_true]
end
end
section
open Go.RowKit
abbrev ar (a1:Int):TV:=(.val (.int .i64 a1))
abbrev nc (a1:Int):TV:=(.val (.int .u32 a1))
abbrev iY (a1 a2 a3 a4 a5:Int):VO:=(.cells [(ar a1),(nc a2),(nc a3),(ar a4),(ar a5)])
abbrev ma:TV:=(.ptr 6 0)
abbrev j7:TV:=(.ptr 8 0)
abbrev qX:VO:=(.cells [ma,j7,(.ptr 11 0),(.ptr 12 0),(.ptr 13 0),(.ptr 14 0)])
abbrev fh (a1:Bool):TV:=(.val (.bool a1))
abbrev iZ (a1 a2 a3:Int)(a4:Bool):VO:=(.cells [(ar a1),(ar a2),(ar a3),(fh a4)])
abbrev vI (a1:VO)(a2 a3 a4 a5 a6:Int)(a7 a8 a9 a10 a11 a12 a13 a14 a15 a16 a17 a18 a19 a20 a21 a22 a23 a24 a25 a26 a27 a28 a29 a30 a31 a32 a33 a34 a35 a36 a37 a38 a39 a40 a41 a42 a43 a44 a45 a46 a47 a48 a49 a50 a51 a52 a53 a54 a55 a56 a57 a58 a59 a60 a61 a62 a63 a64 a65 a66 a67 a68 a69 a70 a71 a72 a73 a74 a75 a76 a77 a78 a79 a80 a81 a82 a83 a84 a85 a86 a87 a88 a89 a90 a91 a92 a93 a94 a95 a96 a97 a98 a99 a100 a101 a102 a103 a104 a105 a106 a107 a108 a109 a110 a111 a112 a113 a114 a115 a116 a117 a118 a119 a120 a121 a122:VO)(a123 a124 a125:Int)(a126:Bool)(a127 a128 a129:Int)(a130:Bool):VT:=⟨[a1,(iY a2 a3 a4 a5 a6),a7,a8,a9,a10,a11,a12,a13,a14,a15,a16,a17,a18,a19,a20,a21,a22,a23,a24,a25,a26,a27,a28,a29,a30,a31,a32,a33,a34,a35,a36,a37,a38,a39,a40,a41,a42,a43,a44,a45,a46,a47,a48,a49,a50,a51,a52,a53,a54,a55,a56,a57,a58,a59,a60,a61,a62,a63,a64,a65,a66,a67,a68,a69,a70,a71,a72,a73,a74,a75,a76,a77,a78,a79,a80,a81,a82,a83,a84,a85,a86,a87,a88,a89,a90,a91,a92,a93,a94,a95,a96,a97,a98,a99,a100,a101,a102,a103,a104,a105,a106,a107,a108,a109,a110,a111,a112,a113,a114,a115,a116,a117,a118,a119,a120,a121,qX,a122,(iZ a123 a124 a125 a126),(iZ a127 a128 a129 a130)],[]⟩
abbrev ej (a1:List (List TV)):TV:=(.vec 1 a1 .none)
abbrev Ic (a1:List (List TV))(a2 a3:Int):List TV:= [(.ptr 1 0),(.ptr 117 0),(.ptr 119 0),(ej a1),(ar a2),(ar a3)]
abbrev rM (a1:VO)(a2 a3 a4 a5 a6:Int)(a7 a8 a9 a10 a11 a12 a13 a14 a15 a16 a17 a18 a19 a20 a21 a22 a23 a24 a25 a26 a27 a28 a29 a30 a31 a32 a33 a34 a35 a36 a37 a38 a39 a40 a41 a42 a43 a44 a45 a46 a47 a48 a49 a50 a51 a52 a53 a54 a55 a56 a57 a58 a59 a60 a61 a62 a63 a64 a65 a66 a67 a68 a69 a70 a71 a72 a73 a74 a75 a76 a77 a78 a79 a80 a81 a82 a83 a84 a85 a86 a87 a88 a89 a90 a91 a92 a93 a94 a95 a96 a97 a98 a99 a100 a101 a102 a103 a104 a105 a106 a107 a108 a109 a110 a111 a112 a113 a114 a115 a116 a117 a118 a119 a120 a121 a122:VO)(a123 a124 a125:Int)(a126:Bool):VT:=⟨[a1,(iY a2 a3 a4 a5 a6),a7,a8,a9,a10,a11,a12,a13,a14,a15,a16,a17,a18,a19,a20,a21,a22,a23,a24,a25,a26,a27,a28,a29,a30,a31,a32,a33,a34,a35,a36,a37,a38,a39,a40,a41,a42,a43,a44,a45,a46,a47,a48,a49,a50,a51,a52,a53,a54,a55,a56,a57,a58,a59,a60,a61,a62,a63,a64,a65,a66,a67,a68,a69,a70,a71,a72,a73,a74,a75,a76,a77,a78,a79,a80,a81,a82,a83,a84,a85,a86,a87,a88,a89,a90,a91,a92,a93,a94,a95,a96,a97,a98,a99,a100,a101,a102,a103,a104,a105,a106,a107,a108,a109,a110,a111,a112,a113,a114,a115,a116,a117,a118,a119,a120,a121,qX,a122,(iZ a123 a124 a125 a126)],[]⟩
abbrev c9 (a1:List (List TV)):TV:=(.vec 3 a1 .none)
abbrev jZ (a1:Int)(a2 a3 a4 a5 a6 a7 a8:List (List TV)):VO:=(.cells [(ar a1),(c9 a2),(ej a3),(ej a4),(c9 a5),(ej a6),(.vec 5 a7 .none),(ej a8)])
abbrev nO (a1:Int)(a2 a3 a4 a5 a6 a7 a8:List (List TV))(a9 a10 a11 a12 a13:Int)(a14 a15 a16 a17 a18 a19 a20 a21 a22 a23 a24 a25 a26 a27 a28 a29 a30 a31 a32 a33 a34 a35 a36 a37 a38 a39 a40 a41 a42 a43 a44 a45 a46 a47 a48 a49 a50 a51 a52 a53 a54 a55 a56 a57 a58 a59 a60 a61 a62 a63 a64 a65 a66 a67 a68 a69 a70 a71 a72 a73 a74 a75 a76 a77 a78 a79 a80 a81 a82 a83 a84 a85 a86 a87 a88 a89 a90 a91 a92 a93 a94 a95 a96 a97 a98 a99 a100 a101 a102 a103 a104 a105 a106 a107 a108 a109 a110 a111 a112 a113 a114 a115 a116 a117 a118 a119 a120 a121 a122 a123 a124 a125 a126 a127 a128 a129:VO)(a130 a131 a132:Int)(a133:Bool):VT:=⟨[(jZ a1 a2 a3 a4 a5 a6 a7 a8),(iY a9 a10 a11 a12 a13),a14,a15,a16,a17,a18,a19,a20,a21,a22,a23,a24,a25,a26,a27,a28,a29,a30,a31,a32,a33,a34,a35,a36,a37,a38,a39,a40,a41,a42,a43,a44,a45,a46,a47,a48,a49,a50,a51,a52,a53,a54,a55,a56,a57,a58,a59,a60,a61,a62,a63,a64,a65,a66,a67,a68,a69,a70,a71,a72,a73,a74,a75,a76,a77,a78,a79,a80,a81,a82,a83,a84,a85,a86,a87,a88,a89,a90,a91,a92,a93,a94,a95,a96,a97,a98,a99,a100,a101,a102,a103,a104,a105,a106,a107,a108,a109,a110,a111,a112,a113,a114,a115,a116,a117,a118,a119,a120,a121,a122,a123,a124,a125,a126,a127,a128,qX,a129,(iZ a130 a131 a132 a133)],[]⟩
abbrev ui (a1:Int)(a2 a3 a4 a5 a6 a7 a8:List (List TV))(a9 a10 a11 a12 a13:Int):VT:=⟨[(jZ a1 a2 a3 a4 a5 a6 a7 a8),(iY a9 a10 a11 a12 a13)],[]⟩
abbrev uj (a1:Int)(a2 a3 a4 a5 a6 a7 a8:List (List TV)):List TV:= [(.agg [(ar a1),(c9 a2),(ej a3),(ej a4),(c9 a5),(ej a6),(.vec 5 a7 .none),(ej a8)])]
abbrev EN:TV:=(.val (.int .i64 1))
abbrev bu:TV:=(.val (.int .i64 0))
abbrev ip:TV:=(.val (.bool true))
abbrev un (a1:Int):VO:=(.cells [EN,(ar a1),bu,ip])
abbrev dG:TV:=(.val (.bool false))
abbrev EO:VO:=(.cells [bu,bu,bu,dG])
abbrev uo (a1 a2 a3:Int)(a4:Bool):TV:=(.agg [(ar a1),(ar a2),(ar a3),(fh a4)])
abbrev gv:TV:=(.val (.int .i64 2))
abbrev Id (a1:Int):TV:=(.agg [gv,bu,(ar a1),dG])
abbrev Ie (a1:Int):TV:=(.agg [EN,(ar a1),bu,dG])
abbrev If (a1:Int):TV:=(.agg [EN,(ar a1),bu,ip])
abbrev cR (a1 a2 a3 a4 a5:Int):TV:=(.agg [(ar a1),(nc a2),(nc a3),(ar a4),(ar a5)])
abbrev Bl (a1 a2 a3 a4 a5:Int):List TV:= [ma,(cR a1 a2 a3 a4 a5)]
abbrev j3:TV:=(.ptr 2 0)
abbrev Bn (a1:List (List TV))(a2 a3:Int):List TV:= [j3,(.ptr 3 0),(.ptr 15 0),(.vec 5 a1 .none),(ar a2),(ar a3)]
abbrev rN:TV:=(.val (.int .u32 0))
abbrev EP:VO:=(.cells [bu,rN,rN,bu,bu,bu,bu,(.ptr 4 0),(.ptr 4 0)])
abbrev EQ:TV:=(.val (.int .i64 20))
abbrev ER:TV:=(.val (.int .i64 100))
abbrev ES (a1:TV):VO:=(.cells [EQ,ER,bu,a1,(.ptr 4 0),bu,bu])
abbrev eo (a1:Int)(a2:TV):VO:=(.cells [(ar a1),a2])
abbrev ce (a1 a2:TV):VO:=(.cells [a1,a2])
abbrev nP (a1 a2 a3:Int):VO:=(.cells [(ar a1),(nc a2),(ar a3)])
abbrev up (a1 a2:VO)(a3:Int)(a4 a5 a6 a7 a8 a9 a10:List (List TV))(a11 a12 a13 a14 a15 a16:TV)(a17:VO)(a18:TV)(a19:VO)(a20:Int)(a21:TV)(a22 a23:VO)(a24 a25:TV)(a26 a27 a28:VO)(a29 a30 a31:Int):VT:=⟨[a1,a2,(jZ a3 a4 a5 a6 a7 a8 a9 a10),(.cells [a11,a12,a13,a14,a15,a16]),EP,a17,(ES a18),a19,(eo a20 a21),a22,a23,(ce a24 a25),a26,a27,a28,qX,(nP a29 a30 a31)],[]⟩
abbrev pp (a1:List (List TV))(a2 a3:Int):List TV:= [j3,(.ptr 3 0),(.ptr 15 0),(c9 a1),(ar a2),(ar a3)]
abbrev uq (a1:Bool):TV:=(.elt [(fh a1)])
abbrev Bo (a1 a2:VO)(a3:Int)(a4 a5 a6 a7 a8 a9 a10:List (List TV))(a11 a12 a13 a14 a15 a16:TV)(a17:VO)(a18:TV)(a19:VO)(a20:Int)(a21:TV)(a22 a23:VO)(a24 a25:TV)(a26 a27 a28:VO):VT:=⟨[a1,a2,(jZ a3 a4 a5 a6 a7 a8 a9 a10),(.cells [a11,a12,a13,a14,a15,a16]),EP,a17,(ES a18),a19,(eo a20 a21),a22,a23,(ce a24 a25),a26,a27,a28,qX],[]⟩
abbrev Bp (a1:List (List TV))(a2:Int):List TV:= [j3,(.ptr 3 0),(.ptr 15 0),(c9 a1),(ar a2),bu]
abbrev xM (a1 a2 a3 a4 a5 a6 a7:Int):TV:=(.agg [(ar a1),(nc a2),(nc a3),(ar a4),(ar a5),(ar a6),(ar a7)])
abbrev cJ (a1:Nat):TV:=(.ptr a1 0)
abbrev pq (a1:Nat):List TV:= [ma,(cJ a1)]
abbrev ET:TV:=(.tup [(.agg [bu,rN,rN,bu,bu,bu,bu]),dG])
abbrev EU (a1:Int)(a2:TV)(a3 a4:Int):VO:=(.cells [EQ,ER,(ar a1),a2,(.ptr 4 0),(ar a3),(ar a4)])
abbrev dZ:TV:=(.ptr 0 0)
abbrev ep:TV:=(.val (.slice .none 0 0))
abbrev j4:TV:=(.vec 3 [] (.tail 0 0))
abbrev Bq (a1:Int)(a2:List (List TV))(a3:Int):List TV:= [dZ,(ar a1),ep,j4,(c9 a2),(ar a3),bu]
abbrev gz (a1:List (List TV))(a2:Nat):TV:=(.vec 3 a1 (.tail 0 a2))
abbrev EV (a1:Int)(a2:List (List TV))(a3:Nat)(a4:List (List TV))(a5 a6:Int):List TV:= [dZ,(ar a1),ep,(gz a2 a3),(c9 a4),(ar a5),(ar a6)]
abbrev Br (a1 a2:TV)(a3 a4:VO)(a5 a6 a7:Int)(a8:List (Nat × Nat × Bool)):VT:=⟨[(ce a1 a2),a3,a4,(nP a5 a6 a7)],a8⟩
abbrev Ig:VO:=(.cells [bu,rN,bu])
abbrev Ih:TV:=(.tup [(.agg [bu,rN,bu]),dG])
abbrev ur (a1 a2 a3 a4 a5:Int)(a6:List (List TV)):List TV:= [(cR a1 a2 a3 a4 a5),(c9 a6)]
abbrev Bt (a1 a2 a3 a4 a5 a6 a7 a8:Int)(a9:List (Nat × Nat × Bool)):VT:=⟨[(iY a1 a2 a3 a4 a5),(nP a6 a7 a8)],a9⟩
abbrev xN (a1 a2 a3:Int):TV:=(.elt [(ar a1),(nc a2),(ar a3)])
abbrev EW (a1 a2 a3 a4 a5:Int)(a6:List TV)(a7:List (Nat × Nat × Bool)):VT:=⟨[(iY a1 a2 a3 a4 a5),(.row a6)],a7⟩
abbrev Bu (a1:List (List TV))(a2:Int)(a3:List (List TV))(a4:Int):List TV:= [(c9 a1),(.val (.int .u64 a2)),j4,(c9 a3),(ar a4),bu]
abbrev ut (a1 a2 a3 a4 a5:Int)(a6:List (Nat × Nat × Bool)):VT:=⟨[(iY a1 a2 a3 a4 a5)],a6⟩
abbrev Bv (a1 a2 a3 a4 a5:Int):List TV:= [(cR a1 a2 a3 a4 a5)]
abbrev jk:VT:=⟨[],[]⟩
abbrev EX (a1:TV)(a2:List (List TV))(a3:Nat)(a4:List (List TV))(a5 a6:Int):List TV:= [dZ,a1,(gz a2 a3),(ej a4),(ar a5),(ar a6)]
abbrev lg (a1 a2 a3:Int)(a4 a5:Bool):VO:=(.cells [(ar a1),(nc a2),(ar a3),(fh a4),(fh a5)])
abbrev uu (a1:Int)(a2:TV)(a3:VO)(a4:TV)(a5 a6 a7:Int)(a8 a9:Bool)(a10 a11 a12:Int)(a13 a14:Bool)(a15 a16 a17:Int)(a18 a19:Bool)(a20:List (Nat × Nat × Bool)):VT:=⟨[(eo a1 a2),a3,(.cells [a4]),(lg a5 a6 a7 a8 a9),(lg a10 a11 a12 a13 a14),(lg a15 a16 a17 a18 a19)],a20⟩
abbrev uw (a1:Int)(a2:TV)(a3:VO)(a4:TV)(a5:List (Nat × Nat × Bool)):VT:=⟨[(eo a1 a2),a3,(.cells [a4])],a5⟩
abbrev Bw (a1:Int)(a2:TV)(a3 a4:VO)(a5 a6 a7:Int)(a8 a9:Bool)(a10 a11 a12:Int)(a13 a14:Bool):VT:=⟨[(eo a1 a2),a3,a4,(lg a5 a6 a7 a8 a9),(lg a10 a11 a12 a13 a14)],[]⟩
abbrev Bx (a1 a2 a3:Int)(a4 a5:Bool):TV:=(.agg [(ar a1),(nc a2),(ar a3),(fh a4),(fh a5)])
abbrev uy (a1:TV)(a2:Int):List TV:= [dZ,a1,(ar a2),j3]
abbrev nQ (a1:Int)(a2:TV)(a3 a4:VO):VT:=⟨[(eo a1 a2),a3,a4],[]⟩
abbrev iq (a1:Int)(a2:TV)(a3:VO):VT:=⟨[(eo a1 a2),a3],[]⟩
abbrev uz (a1:Int):List TV:= [dZ,(ar a1)]
abbrev uA (a1:Int)(a2:TV):List TV:= [dZ,(ar a1),a2]
abbrev By (a1:Int)(a2:TV)(a3:VO)(a4 a5 a6 a7:Int)(a8 a9:Bool):VT:=⟨[(eo a1 a2),a3,(.cells [(ar a4)]),(lg a5 a6 a7 a8 a9)],[]⟩
abbrev xO (a1:Int)(a2:TV)(a3:VO)(a4:Int):VT:=⟨[(eo a1 a2),a3,(.cells [(ar a4)])],[]⟩
abbrev Bz (a1:Int)(a2:TV)(a3:VO)(a4:Bool)(a5 a6 a7:Int)(a8 a9:Bool):VT:=⟨[(eo a1 a2),a3,(.cells [(fh a4)]),(lg a5 a6 a7 a8 a9)],[]⟩
abbrev mD (a1:Int)(a2:TV)(a3:VO)(a4:Bool):VT:=⟨[(eo a1 a2),a3,(.cells [(fh a4)])],[]⟩
abbrev Ii (a1:Int)(a2:TV)(a3:VO):VT:=⟨[(eo a1 a2),a3,(.cells [bu,rN,bu,dG,dG])],[]⟩
abbrev EY (a1:Int)(a2:TV)(a3:VO)(a4 a5 a6 a7 a8 a9:Int)(a10 a11:Bool):VT:=⟨[(eo a1 a2),a3,(nP a4 a5 a6),(lg a7 a8 a9 a10 a11)],[]⟩
abbrev uB (a1 a2 a3:Int)(a4 a5 a6:Bool):TV:=(.tup [(Bx a1 a2 a3 a4 a5),(fh a6)])
abbrev uD (a1:Int)(a2:TV)(a3:VO)(a4 a5 a6:Int):VT:=⟨[(eo a1 a2),a3,(nP a4 a5 a6)],[]⟩
abbrev rO (a1:Int):TV:=(.elt [(ar a1)])
abbrev nR (a1 a2:TV)(a3 a4:VO)(a5:TV)(a6:List (Nat × Nat × Bool)):VT:=⟨[(ce a1 a2),a3,a4,(.cells [a5])],a6⟩
abbrev BA:TV:=(.val (.int .i64 7))
abbrev pt (a1 a2:TV)(a3 a4:VO)(a5 a6 a7 a8 a9 a10:Int):VT:=⟨[(ce a1 a2),a3,a4,(nP a5 a6 a7),(nP a8 a9 a10)],[]⟩
abbrev xP (a1 a2 a3:Int):TV:=(.agg [(ar a1),(nc a2),(ar a3)])
abbrev pu (a1 a2:TV)(a3 a4:VO)(a5 a6 a7:Int):VT:=⟨[(ce a1 a2),a3,a4,(nP a5 a6 a7)],[]⟩
abbrev k6 (a b:Int):Bool:=am (Value.int i64 a) (Value.int i64 b)
end
section
open Go.RowKit
def ae:aD:=λ_=>none
def cT:FuncId→Option ba:=λ_=>none
def bo:Nat→Option (bH × Code):=λ_=>none
abbrev CN:=31
abbrev CO:=33
abbrev FP:=82
abbrev pv:=81
def kI:KS:=⟨false,[.int .i64]⟩
def sT (lk lk2:Value→Option TV)(es es2:List (Value × TV × Nat))(ck ck2:Nat):VT:=⟨[.cells [.map 1,.map 2],.map kI lk es ck,.map kI lk2 es2 ck2],[]⟩
def dd (i a c:Int):List TV:= [.val (.int .i64 i),.val (.int .u32 a),.val (.int .i64 c)]
def Ij (c u:Int):List TV:= [.val (.int .i64 c),.val (.int .i64 u)]
def FQ (lk lk2:Value→Option TV)(es es2:List (Value × TV × Nat))(ck ck2:Nat):VT:=⟨[.cells [.map 1,.map 2],.map kI lk es ck,.map kI lk2 es2 ck2,.cells [.map 1]],[]⟩
def Ik (T0:VT)(ids:List (List TV)):ba:=λro ys T K=>(ro=0∧ys= [.fn (.func ug) [] [.ptr 3 0]]∧T=T0)∧K (.vec 1 ids .none) T
def xQ:List Nat:= [0,2,3,14,15,16]
def uE (ids L:List (List TV))(j:Int):List TV:= [.ptr 0 0,.val (.slice none 0 0),.vec 3 L (.tail 0 L.length),.vec 1 ids .none,.val (.int .i64 ids.length),.val (.int .i64 j)]
def zJ (lk lk2:Value→Option TV)(es es2:List (Value × TV × Nat))(ck ck2 n:Nat):VT:=⟨[.cells [.map 1,.map 2],.map kI lk es ck,.map kI lk2 es2 ck2,.cells [.map 1]],[(n,3,true)]⟩
def Il (lk lk2:Value→Option TV)(es es2:List (Value × TV × Nat))(ck ck2:Nat)(ids S:List (List TV))(c0:Code):Nat→Option (bH × Code):=dk [(0,ig 31 xQ [(3,3)] (uE ids [] 0) (zJ lk lk2 es es2 ck ck2 0) λK=>K .normal (ay 31 xQ (uE ids S ids.length)) (zJ lk lk2 es es2 ck ck2 S.length) [],c0)]
theorem Kw (lk lk2:Value→Option TV)(es es2:List (Value × TV × Nat))(ck ck2:Nat)(i a c i' a' c':Int)(b:Bool)(Q:TV→VT→Prop):aH prog ae cT (Ia [(17,.tup [.agg (dd i' a' c'),.val (.bool b)])]) 300 bo 0 CN [.ptr 0 0,.agg (dd i a c)] (sT lk lk2 es es2 ck ck2) Q=
 (A3 prog (pu (.map 1) (.map 2) (.map ⟨false,[(.int .i64)]⟩ (lk) (es) (ck)) (.map ⟨false,[(.int .i64)]⟩ (lk2) (es2) (ck2)) i a c) 123 (.map 1) (ar i) true (.tup [(xP i' a' c'),(fh b)])∧
 (bif decide (i≥(0:Int))
 then (bif !decide (i≤(255:Int))
 then Q gv (pt (.map 1) (.map 2) (.map ⟨false,[(.int .i64)]⟩ (lk) (es) (ck)) (.map ⟨false,[(.int .i64)]⟩ (lk2) (es2) (ck2)) i a c i' a' c')
 else (bif bN eql (am (Value.int u32 a) (Value.int u32 (0:Int)))
 then Q gv (pt (.map 1) (.map 2) (.map ⟨false,[(.int .i64)]⟩ (lk) (es) (ck)) (.map ⟨false,[(.int .i64)]⟩ (lk2) (es2) (ck2)) i a c i' a' c')
 else (bif decide (c≥(0:Int))
 then (bif !decide (c≤(1000000:Int))
 then Q gv (pt (.map 1) (.map 2) (.map ⟨false,[(.int .i64)]⟩ (lk) (es) (ck)) (.map ⟨false,[(.int .i64)]⟩ (lk2) (es2) (ck2)) i a c i' a' c')
 else (bif b
 then Q (.val (.int .i64 13)) (pt (.map 1) (.map 2) (.map ⟨false,[(.int .i64)]⟩ (lk) (es) (ck)) (.map ⟨false,[(.int .i64)]⟩ (lk2) (es2) (ck2)) i a c i' a' c')
 else (bif decide ((↑(length es):Int)≥(8:Int))
 then Q (.val (.int .i64 6)) (pt (.map 1) (.map 2) (.map ⟨false,[(.int .i64)]⟩ (lk) (es) (ck)) (.map ⟨false,[(.int .i64)]⟩ (lk2) (es2) (ck2)) i a c i' a' c')
 else Q bu (pt (.map 1) (.map 2) (.map ⟨false,[(.int .i64)]⟩ (λkk=>(bif am (Value.int i64 i) kk then (.some (.agg [(.val (.int .i64 (i))),(.val (.int .u32 (a))),(.val (.int .i64 (c)))])) else (lk kk))) (bt (.int .i64 (i)) (.agg [(.val (.int .i64 (i))),(.val (.int .u32 (a))),(.val (.int .i64 (c)))]) (ck) (es)) (match lk (Value.int i64 i) with
|some val=>ck
|none=>ck+(1:Nat))) (.map ⟨false,[(.int .i64)]⟩ (lk2) (es2) (ck2)) i a c i' a' c'))))
 else Q gv (pt (.map 1) (.map 2) (.map ⟨false,[(.int .i64)]⟩ (lk) (es) (ck)) (.map ⟨false,[(.int .i64)]⟩ (lk2) (es2) (ck2)) i a c i' a' c'))))
 else Q gv (pt (.map 1) (.map 2) (.map ⟨false,[(.int .i64)]⟩ (lk) (es) (ck)) (.map ⟨false,[(.int .i64)]⟩ (lk2) (es2) (ck2)) i a c i' a' c'))):=by kernel_rfl
theorem Kx (lk lk2:Value→Option TV)(es es2:List (Value × TV × Nat))(ck ck2:Nat)(i c u i' a' c':Int)(b:Bool)(Q:TV→VT→Prop):aH prog ae cT (bp [(20,.tup [.agg (dd i' a' c'),.val (.bool b)],some λT=>T)]) 300 bo 0 CO [.ptr 0 0,.val (.int .i64 i),.val (.int .i64 c),.val (.int .i64 u)] (sT lk lk2 es es2 ck ck2) Q=
 (aM prog (λ_=>.none) 0 ⟨[(ce (.map 1) (.map 2)),(.map ⟨false,[(.int .i64)]⟩ (lk) (es) (ck)),(.map ⟨false,[(.int .i64)]⟩ (lk2) (es2) (ck2))],[]⟩ (.lookup 123 (.tmp 18) (.tmp 19) true) [(18,(.map 1)),(19,(ar i))] (.tup [(xP i' a' c'),(fh b)]) ⟨[(ce (.map 1) (.map 2)),(.map ⟨false,[(.int .i64)]⟩ (lk) (es) (ck)),(.map ⟨false,[(.int .i64)]⟩ (lk2) (es2) (ck2))],[]⟩∧
 (bif !b
 then Q BA (pu (.map 1) (.map 2) (.map ⟨false,[(.int .i64)]⟩ (lk) (es) (ck)) (.map ⟨false,[(.int .i64)]⟩ (lk2) (es2) (ck2)) i' a' c')
 else (bif decide (c≥(0:Int))
 then (bif !decide (c≤(1000000:Int))
 then Q gv (pu (.map 1) (.map 2) (.map ⟨false,[(.int .i64)]⟩ (lk) (es) (ck)) (.map ⟨false,[(.int .i64)]⟩ (lk2) (es2) (ck2)) i' a' c')
 else (bif decide (u≥(0:Int))
 then (bif !decide (u≤(1099511627776:Int))
 then Q gv (pu (.map 1) (.map 2) (.map ⟨false,[(.int .i64)]⟩ (lk) (es) (ck)) (.map ⟨false,[(.int .i64)]⟩ (lk2) (es2) (ck2)) i' a' c')
 else Q bu (pu (.map 1) (.map 2) (.map ⟨false,[(.int .i64)]⟩ (lk) (es) (ck)) (.map ⟨false,[(.int .i64)]⟩ (λkk=>(bif am (Value.int i64 i) kk then (.some (.agg [(.val (.int .i64 (c))),(.val (.int .i64 (u)))])) else (lk2 kk))) (bt (.int .i64 (i)) (.agg [(.val (.int .i64 (c))),(.val (.int .i64 (u)))]) (ck2) (es2)) (match lk2 (Value.int i64 i) with
|some val=>ck2
|none=>ck2+(1:Nat))) i' a' c'))
 else Q gv (pu (.map 1) (.map 2) (.map ⟨false,[(.int .i64)]⟩ (lk) (es) (ck)) (.map ⟨false,[(.int .i64)]⟩ (lk2) (es2) (ck2)) i' a' c')))
 else Q gv (pu (.map 1) (.map 2) (.map ⟨false,[(.int .i64)]⟩ (lk) (es) (ck)) (.map ⟨false,[(.int .i64)]⟩ (lk2) (es2) (ck2)) i' a' c')))):=by kernel_rfl
theorem FR (lk lk2:Value→Option TV)(es es2:List (Value × TV × Nat))(ck ck2:Nat)(i n c' u':Int)(b:Bool)(Q:TV→VT→Prop):aH prog ae cT (bp [(18,.tup [.agg (Ij c' u'),.val (.bool b)],some λT=>T)]) 300 bo 0 FP [.ptr 0 0,.val (.int .i64 i),.val (.int .i64 n)] (sT lk lk2 es es2 ck ck2) Q=
 (aM prog (λ_=>.none) 0 ⟨[(ce (.map 1) (.map 2)),(.map ⟨false,[(.int .i64)]⟩ (lk) (es) (ck)),(.map ⟨false,[(.int .i64)]⟩ (lk2) (es2) (ck2))],[]⟩ (.lookup 124 (.tmp 16) (.tmp 17) true) [(16,(.map 2)),(17,(ar i))] (.tup [(.agg [(ar c'),(ar u')]),(fh b)]) ⟨[(ce (.map 1) (.map 2)),(.map ⟨false,[(.int .i64)]⟩ (lk) (es) (ck)),(.map ⟨false,[(.int .i64)]⟩ (lk2) (es2) (ck2))],[]⟩∧
 (bif !b
 then Q bu ⟨[(ce (.map 1) (.map 2)),(.map ⟨false,[(.int .i64)]⟩ (lk) (es) (ck)),(.map ⟨false,[(.int .i64)]⟩ (lk2) (es2) (ck2)),(.cells [(ar c'),(ar u')])],[]⟩
 else (bif decide (n≥u')
 then Q bu ⟨[(ce (.map 1) (.map 2)),(.map ⟨false,[(.int .i64)]⟩ (lk) (es) (ck)),(.map ⟨false,[(.int .i64)]⟩ (lk2) (es2) (ck2)),(.cells [(ar c'),(ar u')])],[]⟩
 else Q (ar c') ⟨[(ce (.map 1) (.map 2)),(.map ⟨false,[(.int .i64)]⟩ (lk) (es) (ck)),(.map ⟨false,[(.int .i64)]⟩ (lk2) (es2) (ck2)),(.cells [(ar c'),(ar u')])],[]⟩))):=by kernel_rfl
theorem Ky (lk lk2:Value→Option TV)(es es2:List (Value × TV × Nat))(ck ck2:Nat)(ids S:List (List TV))(Q:TV→VT→Prop):aH prog ae (az [(vH,Ik (FQ lk lk2 es es2 ck ck2) ids)]) bx 300 (Il lk lk2 es es2 ck ck2 ids S (ax prog pv 0)) 0 pv [.ptr 0 0] (sT lk lk2 es es2 ck ck2) Q=
 (((@Eq (Nat) 0 0)∧
 ((@Eq (List TV) [(.fn (.func ug) [] [(.ptr 3 0)])] [(.fn (.func ug) [] [(.ptr 3 0)])])∧
 (@Eq (VT) ⟨[(ce (.map 1) (.map 2)),(.map ⟨false,[(.int .i64)]⟩ (lk) (es) (ck)),(.map ⟨false,[(.int .i64)]⟩ (lk2) (es2) (ck2)),(.cells [(.map 1)])],[]⟩ ⟨[(ce (.map 1) (.map 2)),(.map ⟨false,[(.int .i64)]⟩ (lk) (es) (ck)),(.map ⟨false,[(.int .i64)]⟩ (lk2) (es2) (ck2)),(.cells [(.map 1)])],[]⟩)))∧
 ((ax prog pv (0:Nat)=ax prog pv (0:Nat))∧
 (((@Eq (Option Nat) .none .none)∧
 ((@Eq (Nat) 0 0)∧
 ((@Eq (List Nat) [] [])∧
 (((@Eq (Option TV) (.some ep) (.some ep))∧
 True)∧
 ((@Eq (VT) (nR (.map 1) (.map 2) (.map ⟨false,[(.int .i64)]⟩ (lk) (es) (ck)) (.map ⟨false,[(.int .i64)]⟩ (lk2) (es2) (ck2)) (.map 1) [(0,(3,true))]) (nR (.map 1) (.map 2) (.map ⟨false,[(.int .i64)]⟩ (lk) (es) (ck)) (.map ⟨false,[(.int .i64)]⟩ (lk2) (es2) (ck2)) (.map 1) [(0,(3,true))]))∧
 ((@Eq (Bool) true true)∧
 (@Eq (List TV) [dZ,ep,j4,(ej ids),(ar (↑(length ids):Int)),bu] [dZ,ep,j4,(ej ids),(ar (↑(length ids):Int)),bu])))))))∧
 Q (gz S (length S)) (nR (.map 1) (.map 2) (.map ⟨false,[(.int .i64)]⟩ (lk) (es) (ck)) (.map ⟨false,[(.int .i64)]⟩ (lk2) (es2) (ck2)) (.map 1) [((length S),(3,true))])))):=by kernel_rfl
theorem CP (lk lk2:Value→Option TV)(es es2:List (Value × TV × Nat))(ck ck2:Nat)(ids L:List (List TV))(z i a c:Int)(j:Nat)(Q:Exit→List TV→VT→List Nat→Nat→Prop):vx prog ae cT (bp [(999998,.dead,none),(18,.elt [.val (.int .i64 z)],none),(26,.agg (dd i a c),some λT=>T),(28,.vec 3 (L++ [dd i a c]) (.tail 0 (L.length+1)),some λT=>{T with tails:= [(L.length+1,3,true)]})]) 300 bo none 0 (dj prog pv 0) (ay 31 xQ (uE ids L j)) (zJ lk lk2 es es2 ck ck2 L.length) [] (dm xQ Q)=
 (bif decide ((↑j:Int)<(↑(length ids):Int))
 then (aJ prog (λ_=>.none) (.indexAddr 25 (.tmp 14) (.tmp 16)) [(14,(ej ids)),(16,(ar (↑j:Int)))] (rO z)∧
 (aM prog (λ_=>.none) 0 (nR (.map 1) (.map 2) (.map ⟨false,[(.int .i64)]⟩ (lk) (es) (ck)) (.map ⟨false,[(.int .i64)]⟩ (lk2) (es2) (ck2)) (.map 1) [((length L),(3,true))]) (.lookup 123 (.tmp 24) (.tmp 25) false) [(24,(.map 1)),(25,(ar z))] (xP i a c) (nR (.map 1) (.map 2) (.map ⟨false,[(.int .i64)]⟩ (lk) (es) (ck)) (.map ⟨false,[(.int .i64)]⟩ (lk2) (es2) (ck2)) (.map 1) [((length L),(3,true))])∧
 (aM prog (λ_=>.none) 0 (nR (.map 1) (.map 2) (.map ⟨false,[(.int .i64)]⟩ (lk) (es) (ck)) (.map ⟨false,[(.int .i64)]⟩ (lk2) (es2) (ck2)) (.map 1) [((length L),(3,true))]) (.call ⟨(.builtin .append),#[(.tmp 20),(.tmp 27)],#[24,24]⟩) [(20,(gz L (length L))),(27,(.vec 3 [[(.val (.int .i64 (i))),(.val (.int .u32 (a))),(.val (.int .i64 (c)))]] .full))] (gz (L++ [dd i a c]) (length L+(1:Nat))) (nR (.map 1) (.map 2) (.map ⟨false,[(.int .i64)]⟩ (lk) (es) (ck)) (.map ⟨false,[(.int .i64)]⟩ (lk2) (es2) (ck2)) (.map 1) [((length L+(1:Nat)),(3,true))])∧
 Q .normal [dZ,ep,(gz (L++ [dd i a c]) (length L+(1:Nat))),(ej ids),(ar (↑(length ids):Int)),(ar (wrap i64 ((↑j:Int)+(1:Int))))] (nR (.map 1) (.map 2) (.map ⟨false,[(.int .i64)]⟩ (lk) (es) (ck)) (.map ⟨false,[(.int .i64)]⟩ (lk2) (es2) (ck2)) (.map 1) [((length L+(1:Nat)),(3,true))]) [] 31)))
 else Q (.exit 0) [dZ,ep,(gz L (length L)),(ej ids),(ar (↑(length ids):Int)),(ar (↑j:Int))] (nR (.map 1) (.map 2) (.map ⟨false,[(.int .i64)]⟩ (lk) (es) (ck)) (.map ⟨false,[(.int .i64)]⟩ (lk2) (es2) (ck2)) (.map 1) [((length L),(3,true))]) [] 31):=by kernel_rfl
end
section
open Go.RowKit Go.Maps Go.Sort
theorem ah:prog.follows .mixedOrders=true:=by kernel_rfl
theorem ag:gt prog=true:=by kernel_rfl
theorem bg:nL ae:=λ_ _ h=>by cases h
abbrev aN:=Int × Int × Int
def iH (s:aN):TV:=.agg (dd s.1 s.2.1 s.2.2)
def be (s:aN):List TV:=dd s.1 s.2.1 s.2.2
structure SitesOk (lk:Value→Option TV) (es:List (Value × TV × Nat)) (ck:Nat) (S:List aN) (st:List Nat):Prop where
 look:lk=λk=>(S.find? λs=>am (aC s.1) k).map iH
 ents:es=zipWith (λs b=>(aC s.1,iH s,b)) S st
 slen:st.length=S.length
 nd:(S.map (·.1)).Nodup
 ids:∀s∈S,0≤s.1∧s.1<256
 born:∀b∈st,b<ck
 borns:st.Nodup
 few:S.length≤8
theorem xR:∀{S:List aN} {st:List Nat},st.length=S.length→(zipWith (λs b=>(aC s.1,iH s,b)) S st).map (·.1)=(S.map (·.1)).map aC
 |[],[],_=>rfl
 |[],_::_,h=>by simp at h
 |_::_,[],h=>by simp at h
 |s::S,b::st,h=>by
  simp only [zipWith_cons_cons,map_cons]
  rw [xR (by simpa using h)]
theorem xS:∀{S:List aN} {st:List Nat},st.length=S.length→(zipWith (λs b=>(aC s.1,iH s,b)) S st).map (·.2.2)=st
 |[],[],_=>rfl
 |[],_::_,h=>by simp at h
 |_::_,[],h=>by simp at h
 |s::S,b::st,h=>by
  simp only [zipWith_cons_cons,map_cons]
  rw [xS (by simpa using h)]
theorem SitesOk.keys {lk:Value→Option TV}{es:List (Value × TV × Nat)}{ck:Nat}{S:List aN}{st:List Nat}(h:SitesOk lk es ck S st):es.map (·.1)=(S.map (·.1)).map aC:=by
 rw [h.ents,xR h.slen]
theorem SitesOk.stamps {lk:Value→Option TV}{es:List (Value × TV × Nat)}{ck:Nat}{S:List aN}{st:List Nat}(h:SitesOk lk es ck S st):es.map (·.2.2)=st:=by
 rw [h.ents,xS h.slen]
theorem SitesOk.len {lk:Value→Option TV}{es:List (Value × TV × Nat)}{ck:Nat}{S:List aN}{st:List Nat}(h:SitesOk lk es ck S st):es.length=S.length:=by
 have:=congrArg length h.keys
 simpa using this
theorem Mf (a b:Int):am (aC a) (aC b)=(a==b):=rfl
theorem SitesOk.at {lk:Value→Option TV}{es:List (Value × TV × Nat)}{ck:Nat}{S:List aN}{st:List Nat}(h:SitesOk lk es ck S st)(z:Int):lk (aC z)=(S.find? λs=>s.1==z).map iH:=by
 rw [h.look];rfl
theorem G5 (f g:Nat→Option Nat)(s:aN):(iH s).ren f g=iH s:=rfl
theorem SitesOk.ren {lk:Value→Option TV}{es:List (Value × TV × Nat)}{ck:Nat}{S:List aN}{st:List Nat}(h:SitesOk lk es ck S st)(f g:Nat→Option Nat):VO.ren f g (.map kI lk es ck)=.map kI lk es ck:=by
 have h1:(λk=>(lk k).map (TV.ren f g))=lk:=by
  funext k
  rw [h.look]
  simp only
  cases S.find? λs=>am (aC s.1) k<;>rfl
 have h2:es.map (λe=>(e.1,e.2.1.ren f g,e.2.2))=es:=by
  rw [h.ents]
  have go:∀(S:List aN) (st:List Nat),(zipWith (λs b=>(aC s.1,iH s,b)) S st).map (λe=>(e.1,e.2.1.ren f g,e.2.2))=zipWith (λs b=>(aC s.1,iH s,b)) S st:=by
   intro S
   induction S with
   |nil=>intro st;rfl
   |cons s S ih=>
    intro st
    cases st with
    |nil=>rfl
    |cons b st=>simp only [zipWith_cons_cons,map_cons,ih st,G5]
  exact go S st
 simp only [VO.ren,h1,h2]
def bW (S:List aN):List Int:=(S.map (·.1)).mergeSort leI
theorem Kz {lk lk2:Value→Option TV}{es es2:List (Value × TV × Nat)}{ck ck2:Nat}{S:List aN}{st:List Nat}(h:SitesOk lk es ck S st):∀ro ys T K,Ik (FQ lk lk2 es es2 ck ck2) ((bW S).map λz=> [.val (aC z)]) ro ys T K→VCx prog ae ro vH ys T K:=by
 rintro ro ys T K ⟨⟨rfl,rfl,rfl⟩,hk⟩
 refine (Ib (k:=3) (m:=1) (T:=FQ lk lk2 es es2 ck ck2) rfl rfl h.keys (λz hz=> ?_) (λe he=> ?_) (by rw [h.stamps];exact h.borns) (by simp;have:=h.few;omega)).mono ?_
 ·obtain ⟨s,hs,rfl⟩:=mem_map.1 hz
  have:=h.ids s hs
  omega
 ·have hm:e.2.2∈es.map (·.2.2):=mem_map_of_mem he
  rw [h.stamps] at hm
  exact h.born _ hm
 ·rintro x T' ⟨rfl,rfl⟩
  exact hk
theorem mc (S:List aN):(bW S).length=S.length:=by simp [bW,List.length_mergeSort]
def bD (S:List aN):List aN:=(bW S).map λz=>(S.find? λs=>s.1==z).getD (0,0,0)
theorem G6 {S:List aN}{j:Nat}(hj:j<(bW S).length):∃s,S.find? (λs=>s.1==(bW S)[j])=some s∧(bD S)[j]?=some s:=by
 have hm:(bW S)[j]∈S.map (·.1):=(List.mergeSort_perm (S.map (·.1)) leI).mem_iff.1 (List.getElem_mem hj)
 obtain ⟨s0,hs0,he⟩:=mem_map.1 hm
 cases hf:S.find? λs=>s.1==(bW S)[j] with
 |none=>
  have:=find?_eq_none.1 hf s0 hs0
  simp [he] at this
 |some s=>
  refine ⟨s,rfl,?_⟩
  unfold bD
  rw [getElem?_map,getElem?_eq_getElem hj,map_some,hf];rfl
theorem nS:∃inf:TypeInfo,prog.info? 62=some inf∧inf.size=3∧inf.bytes+1≤1000∧inf.zero=some (.agg #[.int .i64 0,.int .u32 0,.int .i64 0]):=
 ⟨(prog.info? 62).getD default,by kernel_rfl,by kernel_rfl,le_of_ble_eq_true (by kernel_rfl),by kernel_rfl⟩
end
section
open Go.RowKit Go.Maps Go.Sort
theorem th {T T1:VT}{s x:Operand}{l:List (Nat × TV)}{es es2:List (List TV)}{k n:Nat}{bn:Bool}(hs:cw T 3 (aq ae l s)=some (es,k,n,bn,T1))(hx:gL 3 (aq ae l x)=some es2)(hb:es.length+es2.length≤3000):
    aM prog ae 0 T (.call ⟨.builtin .append,#[s,x],#[24,24]⟩) l (.vec 3 (es++es2) (.tail k (n+es2.length))) {T1 with tails:=T1.tails.set k (n+es2.length,3,bn)}:=by
  obtain ⟨inf,i_at,i_size,i_bytes,i_zero⟩:=nS
  have h:=iG (inf:=inf) (P:=prog) (G:=ae) (ro:=0) (T:=T) (T1:=T1) (t:=24) (tx:=24) (s:=s) (x:=x) (l:=l) (es:=es) (es2:=es2) (k:=k) (n:=n) (bn:=bn) Tryz.underlying24 i_at i_zero (by rw [i_size];rfl) (by rw [i_size];decide) (by kernel_rfl) (by rw [i_size];exact hs) (by rw [i_size];exact hx)
    (by have h1:=i_bytes
        have h2:=Nat.mul_le_mul hb h1
        omega)
  rw [i_size] at h
  exact h
theorem dH {G:aD}{T:VT}{t:TypeId}{m k:Operand}{ok:Bool}{l:List (Nat × TV)}{y:TV}(h:cV prog T t (aq G l m) (aq G l k) ok=some y):aM prog G 0 T (.lookup t m k ok) l y T:=by
 refine .mk ?_
 have h1:aR prog (.lookup t m k ok) (aq G l)=none:=by simp [aR,cN]
 have h2:aK prog T (.lookup t m k ok) (aq G l)=some y:=by simp only [aK,h]
 simp only [eY,h1,h2]
theorem pw {T:VT}{lk:Value→Option TV}{es:List (Value × TV × Nat)}{ck id:Nat}{z:Int}(hid:T.objs[id]?=some (.map kI lk es ck))(ok:Bool):cV prog T 123 (.map id) (.val (aC z)) ok=some (cg ok (lk (aC z)) (.agg #[.int .i64 0,.int .u32 0,.int .i64 0])):=by
 have h:∀o:Option VO,o=some (.map kI lk es ck)→(match prog.underlying 123,bM (.val (aC z)) with
   |some (.map kt et),some kv=>match cf prog kt,prog.info? et with
    |some sh,some i=>match i.zero with
     |some zz=>bif sh.fits kv then (match o with
       |some (.map sh' look _ _)=>bif gW sh sh' then some (cg ok (look kv) zz) else none
       |_=>none) else none
     |none=>none
    |_,_=>none
   |_,_=>none)=some (cg ok (lk (aC z)) (.agg #[.int .i64 0,.int .u32 0,.int .i64 0])):=by
  rintro _ rfl
  kernel_rfl
 exact h _ hid
def px (S:List aN):List (List TV):=(bW S).map λz=> [.val (aC z)]
theorem ir {x i:Operand}{l:List (Nat × TV)}{L:List (List TV)}{tok:Tok}{k:IntKind}{z:Int}{e:List TV}(hx:aq ae l x=.vec 1 L tok)(hz:aq ae l i=.val (.int k z))(h0:0≤z)(he:L[z.toNat]?=some e):
  aJ prog ae (.indexAddr 25 x i) l (.elt e):=
 dN (inf:=(prog.info? 3).getD default) underlying25 (by kernel_rfl) hx hz h0 he
theorem G7 {lk lk2:Value→Option TV}{es es2:List (Value × TV × Nat)}{ck ck2:Nat}{S:List aN}{st:List Nat}(h:SitesOk lk es ck S st):ek prog ae (Il lk lk2 es es2 ck ck2 (px S) ((bD S).map be) (ax prog pv 0)):=cq λp hp=>by
 obtain rfl:=mem_singleton.1 hp
 refine dA λK hK=> ?_
 have hlen:(px S).length=(bW S).length:=length_map _
 have hlb:(bD S).length=(bW S).length:=length_map _
 have hfew:=h.few
 have hil:=mc S
 let sl:Nat→List TV:=λj=>uE (px S) (((bD S).take j).map be) j
 let TT:Nat→VT:=λj=>zJ lk lk2 es es2 ck ck2 (((bD S).take j).map be).length
 let Post:Exit→List TV→VT→Prop:=λe vs T=>e=.normal∧vs=sl (bW S).length∧T=TT (bW S).length
 refine fv (f:=pv) (id:=0) (by kernel_rfl) 31 xQ (λj=>(bW S).length-j) sl TT (λj=>j≤(bW S).length) 4 1 (λ_ _=>⟨le_refl _,le_refl _⟩)
  Post (λj hj=> ?_) 0 (zero_le _) K (λe vs T ⟨h1,h2,h3⟩=> ?_)
 ·by_cases hlt:j<(bW S).length
  ·obtain ⟨s,hf,hs⟩:=G6 hlt
   have hw:=fV j (by omega)
   have hl:lk (aC (bW S)[j])=some (iH s):=by rw [h.at,hf];rfl
   have he:(px S)[j]?=some [.val (aC (bW S)[j])]:=by unfold px;rw [getElem?_map,getElem?_eq_getElem hlt];rfl
   have hstep:((bD S).take (j+1)).map be=((bD S).take j).map be++ [dd s.1 s.2.1 s.2.2]:=by
    rw [List.take_add_one,hs];simp [be]
   have htl:(((bD S).take j).map be).length≤100:=by simp only [length_map,length_take];omega
   refine cn ah ag aw ak (CP lk lk2 es es2 ck ck2 (px S) (((bD S).take j).map be) (bW S)[j] s.1 s.2.1 s.2.2 j _) ?_
   refine aZ (decide_eq_true (by omega)) ⟨ir rfl rfl (Int.natCast_nonneg _) (by simp only [Int.toNat_natCast];exact he),dH ((pw (lk:=lk) (es:=es) (ck:=ck) rfl false).trans (by rw [hl];rfl)),th (T1:=TT j) (es2:= [dd s.1 s.2.1 s.2.2]) (by simp [aq,dU,cw,TT,zJ,kI]) rfl (by simp only [length_cons,length_nil];omega),rfl,rfl,j+1,hlt,by simp only;omega,.inl ⟨?_,?_⟩⟩
   ·simp only [TT,hstep,List.length_append,length_cons,length_nil];rfl
   ·simp only [sl,uE,hw,hstep,List.length_append,length_cons,length_nil]
  ·obtain rfl:j=(bW S).length:=by omega
   refine cn ah ag aw ak (CP lk lk2 es es2 ck ck2 (px S) (((bD S).take (bW S).length).map be) 0 0 0 0 (bW S).length _) ?_
   exact aA (decide_eq_false (by omega)) ⟨rfl,rfl,rfl,rfl,rfl⟩
 ·subst h1 h2 h3
  have ht:(bD S).take (bW S).length=bD S:=List.take_of_length_le (by omega)
  have e1:sl (bW S).length=uE (px S) ((bD S).map be) (px S).length:=by simp only [sl,ht,hlen]
  have e2:TT (bW S).length=zJ lk lk2 es es2 ck ck2 ((bD S).map be).length:=by simp only [TT,ht]
  rw [e1,e2]
  exact hK
theorem Im {lk lk2:Value→Option TV}{es es2:List (Value × TV × Nat)}{ck ck2:Nat}{S:List aN}{st:List Nat}(h:SitesOk lk es ck S st)(h2:∀f g,VO.ren f g (.map kI lk2 es2 ck2)=.map kI lk2 es2 ck2):
  VCx prog ae 0 pv [.ptr 0 0] (sT lk lk2 es es2 ck ck2) λx T'=>x=.vec 3 ((bD S).map be) .none∧T'=sT lk lk2 es es2 ck ck2:=by
 have hC:aQ prog ae (az [(vH,Ik (FQ lk lk2 es es2 ck ck2) (px S))]):=aE λp hp=>by
  obtain rfl:=mem_singleton.1 hp
  exact Kz h
 refine VCx.keepQ 3 0 (le_refl _) (le_refl _) (ap ah ag hC (G7 h) (Ky lk lk2 es es2 ck ck2 (px S) ((bD S).map be) _) ?_)
 refine ⟨⟨rfl,rfl,rfl⟩,rfl,⟨rfl,rfl,rfl,⟨rfl,trivial⟩,rfl,rfl,rfl⟩,?_,?_⟩
 ·have hr:bL (ai 3) (ai 0) ((bD S).map be)=(bD S).map be:=by
   induction bD S with
   |nil=>rfl
   |cons a l ih=>simp only [map_cons,bL,ih];rfl
  simp only [TV.ren,hr,Tok.ren,ai]
  rfl
 ·have e1:=h.ren (ai 3) (ai 0)
  have e2:=h2 (ai 3) (ai 0)
  unfold kI at e1 e2
  simp only [VT.keep,take_succ_cons,take_zero,map_cons,map_nil,e1,e2,sT,kI]
  rfl
end
section
open Go.RowKit Go.Maps Go.Sort
theorem xT (k:Value):(∃z,∀i,am (aC i) k=(i==z))∨(∀i,am (aC i) k=false):=by
 cases k
 case int q z=>exact .inl ⟨z,λi=>rfl⟩
 all_goals exact .inr λi=>rfl
def In (S:List aN)(st:List Nat):List (Value × TV × Nat):=zipWith (λs b=>(aC s.1,iH s,b)) S st
theorem zK (t:aN)(ck:Nat):∀{S:List aN} {st:List Nat},st.length=S.length→S.find? (λs=>s.1==t.1)=none→bt (aC t.1) (iH t) ck (In S st)=In (S++ [t]) (st++ [ck])
 |[],[],_,_=>rfl
 |[],_::_,h,_=>by simp at h
 |_::_,[],h,_=>by simp at h
 |s::S,b::st,h,hn=>by
  have hs:(s.1==t.1)=false:=by
   have:=find?_eq_none.1 hn s mem_cons_self
   simpa using this
  have hn2:S.find? (λs=>s.1==t.1)=none:=by rw [find?_cons,hs] at hn;exact hn
  have hs2:(t.1==s.1)=false:=by rw [beq_eq_false_iff_ne] at hs ⊢;exact λe=>hs e.symm
  have ih:=zK t ck (S:=S) (st:=st) (by simpa using h) hn2
  show (bif (t.1==s.1) then _ else _)=_
  rw [hs2,cond_false]
  exact congrArg (List.cons _) ih
theorem SitesOk.put {lk:Value→Option TV}{es:List (Value × TV × Nat)}{ck:Nat}{S:List aN}{st:List Nat}(h:SitesOk lk es ck S st)(t:aN)(hn:S.find? (λs=>s.1==t.1)=none)(hi:0≤t.1∧t.1<256)(hl:S.length<8):
  SitesOk (λk=>bif am (aC t.1) k then some (iH t) else lk k) (bt (aC t.1) (iH t) ck es) (ck+1) (S++ [t]) (st++ [ck]) where
 look:=by
  funext k
  rw [h.look]
  simp only [List.find?_append]
  rcases xT k with ⟨z,hz⟩ | hz
  ·simp only [hz]
   cases hc:t.1==z
   ·simp [hc]
   ·rw [beq_iff_eq] at hc
    rw [←hc,hn];simp
  ·simp [hz]
 ents:=by rw [h.ents];exact zK t ck h.slen hn
 slen:=by simp [h.slen]
 nd:=by
  rw [List.map_append]
  refine nodup_append.2 ⟨h.nd,by simp,λa ha b hb e=> ?_⟩
  obtain ⟨s,hs,rfl⟩:=mem_map.1 ha
  have hb':b=t.1:=by simpa using hb
  have:=find?_eq_none.1 hn s hs
  simp [e,hb'] at this
 ids:=λs hs=>by
  rcases mem_append.1 hs with hs | hs
  ·exact h.ids s hs
  ·rw [mem_singleton.1 hs];exact hi
 born:=λb hb=>by
  rcases mem_append.1 hb with hb | hb
  ·have:=h.born b hb;omega
  ·rw [mem_singleton.1 hb];omega
 borns:=nodup_append.2 ⟨h.borns,by simp,λa ha b hb e=>by
  have:=h.born a ha
  rw [mem_singleton.1 hb] at e
  omega⟩
 few:=by simp;omega
end
section
open Go.RowKit Go.Maps Go.Sort
structure MpOk {α:Type} (ky:α→Int) (tv:α→TV) (lk:Value→Option TV) (es:List (Value × TV × Nat)) (ck:Nat) (S:List α) (st:List Nat):Prop where
 look:lk=λk=>(S.find? λs=>am (aC (ky s)) k).map tv
 ents:es=zipWith (λs b=>(aC (ky s),tv s,b)) S st
 slen:st.length=S.length
 nd:(S.map ky).Nodup
 ids:∀s∈S,0≤ky s∧ky s<256
 born:∀b∈st,b<ck
 borns:st.Nodup
section
variable {α:Type}{ky:α→Int}{tv:α→TV}{lk:Value→Option TV}{es:List (Value × TV × Nat)}{ck:Nat}{S:List α}{st:List Nat}
theorem vJ:∀{S:List α} {st:List Nat},st.length=S.length→(zipWith (λs b=>(aC (ky s),tv s,b)) S st).map (·.1)=(S.map ky).map aC
 |[],[],_=>rfl
 |[],_::_,h=>by simp at h
 |_::_,[],h=>by simp at h
 |s::S,b::st,h=>by
  simp only [zipWith_cons_cons,map_cons]
  rw [vJ (by simpa using h)]
theorem vK:∀{S:List α} {st:List Nat},st.length=S.length→(zipWith (λs b=>(aC (ky s),tv s,b)) S st).map (·.2.2)=st
 |[],[],_=>rfl
 |[],_::_,h=>by simp at h
 |_::_,[],h=>by simp at h
 |s::S,b::st,h=>by
  simp only [zipWith_cons_cons,map_cons]
  rw [vK (by simpa using h)]
theorem MpOk.keys (h:MpOk ky tv lk es ck S st):es.map (·.1)=(S.map ky).map aC:=by rw [h.ents,vJ h.slen]
theorem MpOk.stamps (h:MpOk ky tv lk es ck S st):es.map (·.2.2)=st:=by rw [h.ents,vK h.slen]
theorem MpOk.len (h:MpOk ky tv lk es ck S st):es.length=S.length:=by
 have:=congrArg length h.keys
 simpa using this
theorem MpOk.at (h:MpOk ky tv lk es ck S st)(z:Int):lk (aC z)=(S.find? λs=>ky s==z).map tv:=by
 rw [h.look];rfl
theorem MpOk.ren (h:MpOk ky tv lk es ck S st)(ht:∀s f g,(tv s).ren f g=tv s)(f g:Nat→Option Nat)(sh:KS)(ck2:Nat):VO.ren f g (.map sh lk es ck2)=.map sh lk es ck2:=by
 have h1:(λk=>(lk k).map (TV.ren f g))=lk:=by
  funext k
  rw [h.look]
  simp only
  cases S.find? λs=>am (aC (ky s)) k with
  |none=>rfl
  |some s=>simp only [map_some,ht]
 have h2:es.map (λe=>(e.1,e.2.1.ren f g,e.2.2))=es:=by
  rw [h.ents]
  have go:∀(S:List α) (st:List Nat),(zipWith (λs b=>(aC (ky s),tv s,b)) S st).map (λe=>(e.1,e.2.1.ren f g,e.2.2))=zipWith (λs b=>(aC (ky s),tv s,b)) S st:=by
   intro S
   induction S with
   |nil=>intro st;rfl
   |cons s S ih=>
    intro st
    cases st with
    |nil=>rfl
    |cons b st=>simp only [zipWith_cons_cons,map_cons,ih st,ht]
  exact go S st
 simp only [VO.ren,h1,h2]
theorem xU (t:α)(ck:Nat):∀{S:List α} {st:List Nat},st.length=S.length→S.find? (λs=>ky s==ky t)=none→bt (aC (ky t)) (tv t) ck (zipWith (λs b=>(aC (ky s),tv s,b)) S st)=zipWith (λs b=>(aC (ky s),tv s,b)) (S++ [t]) (st++ [ck])
 |[],[],_,_=>rfl
 |[],_::_,h,_=>by simp at h
 |_::_,[],h,_=>by simp at h
 |s::S,b::st,h,hn=>by
  have hs:(ky s==ky t)=false:=by
   have:=find?_eq_none.1 hn s mem_cons_self
   simpa using this
  have hn2:S.find? (λs=>ky s==ky t)=none:=by rw [find?_cons,hs] at hn;exact hn
  have hs2:(ky t==ky s)=false:=by rw [beq_eq_false_iff_ne] at hs ⊢;exact λe=>hs e.symm
  have ih:=xU t ck (S:=S) (st:=st) (by simpa using h) hn2
  show (bif (ky t==ky s) then _ else _)=_
  rw [hs2,cond_false]
  exact congrArg (List.cons _) ih
theorem MpOk.put (h:MpOk ky tv lk es ck S st)(t:α)(hn:S.find? (λs=>ky s==ky t)=none)(hi:0≤ky t∧ky t<256):
  MpOk ky tv (λk=>bif am (aC (ky t)) k then some (tv t) else lk k) (bt (aC (ky t)) (tv t) ck es) (ck+1) (S++ [t]) (st++ [ck]) where
 look:=by
  funext k
  rw [h.look]
  simp only [List.find?_append]
  rcases xT k with ⟨z,hz⟩ | hz
  ·simp only [hz]
   cases hc:ky t==z
   ·simp [hc]
   ·rw [beq_iff_eq] at hc
    rw [←hc,hn];simp
  ·simp [hz]
 ents:=by rw [h.ents];exact xU t ck h.slen hn
 slen:=by simp [h.slen]
 nd:=by
  rw [List.map_append]
  refine nodup_append.2 ⟨h.nd,by simp,λa ha b hb e=> ?_⟩
  obtain ⟨s,hs,rfl⟩:=mem_map.1 ha
  have hb':b=ky t:=by simpa using hb
  have:=find?_eq_none.1 hn s hs
  simp [e,hb'] at this
 ids:=λs hs=>by
  rcases mem_append.1 hs with hs | hs
  ·exact h.ids s hs
  ·rw [mem_singleton.1 hs];exact hi
 born:=λb hb=>by
  rcases mem_append.1 hb with hb | hb
  ·have:=h.born b hb;omega
  ·rw [mem_singleton.1 hb];omega
 borns:=nodup_append.2 ⟨h.borns,by simp,λa ha b hb e=>by
  have:=h.born a ha
  rw [mem_singleton.1 hb] at e
  omega⟩
def fw (ky:α→Int)(t:α)(S:List α):List α:=S.map λs=>bif ky s==ky t then t else s
theorem py (t:α)(S:List α):(fw ky t S).map ky=S.map ky:=by
 unfold fw
 rw [map_map]
 refine map_congr_left λs _=> ?_
 simp only [comp]
 cases h:ky s==ky t
 ·rfl
 ·rw [beq_iff_eq] at h;simp [h]
theorem md (t:α)(p:Int→Bool):∀S:List α,(fw ky t S).find? (λs=>p (ky s))=(S.find? λs=>p (ky s)).map λs=>bif ky s==ky t then t else s
 |[]=>rfl
 |s::S=>by
  have ih:=md t p S
  show List.find? _ ((bif ky s==ky t then t else s)::fw ky t S)=_
  rw [find?_cons,find?_cons]
  have e:ky (bif ky s==ky t then t else s)=ky s:=by
   cases h:ky s==ky t
   ·rfl
   ·rw [beq_iff_eq] at h;simp [h]
  rw [e]
  cases hp:p (ky s)
  ·exact ih
  ·rfl
theorem xV (t:α)(ck:Nat):∀{S:List α} {st:List Nat},st.length=S.length→(S.map ky).Nodup→(∃s,S.find? (λs=>ky s==ky t)=some s)→bt (aC (ky t)) (tv t) ck (zipWith (λs b=>(aC (ky s),tv s,b)) S st)=zipWith (λs b=>(aC (ky s),tv s,b)) (fw ky t S) st
 |[],_,_,_,hn=>by obtain ⟨s,hs⟩:=hn;simp at hs
 |_::_,[],h,_,_=>by simp at h
 |s::S,b::st,h,hd,hn=>by
  cases hs:ky s==ky t
  ·have hs2:(ky t==ky s)=false:=by rw [beq_eq_false_iff_ne] at hs ⊢;exact λe=>hs e.symm
   have hn2:∃s,S.find? (λs=>ky s==ky t)=some s:=by rw [find?_cons,hs] at hn;exact hn
   have ih:=xV t ck (S:=S) (st:=st) (by simpa using h) (nodup_cons.1 hd).2 hn2
   show (bif (ky t==ky s) then _ else _)=zipWith _ ((bif ky s==ky t then t else s)::fw ky t S) _
   rw [hs2,hs,cond_false]
   exact congrArg (List.cons _) ih
  ·have hk:ky s=ky t:=by simpa using hs
   have hs2:(ky t==ky s)=true:=by rw [hk];simp
   have e:fw ky t S=S:=by
    unfold fw
    refine (map_congr_left λu hu=> ?_).trans (map_id S)
    have:(ky u==ky t)=false:=by
     rw [beq_eq_false_iff_ne]
     intro e
     exact (nodup_cons.1 hd).1 (by show ky s∈_;rw [hk,←e];exact mem_map_of_mem hu)
    rw [this];rfl
   show (bif (ky t==ky s) then _ else _)=zipWith _ ((bif ky s==ky t then t else s)::fw ky t S) _
   rw [hs2,hs,cond_true,e,zipWith_cons_cons,cond_true,←hk]
theorem MpOk.set (h:MpOk ky tv lk es ck S st)(t:α)(hn:∃s,S.find? (λs=>ky s==ky t)=some s)(ck2:Nat)(hc:ck≤ck2):
  MpOk ky tv (λk=>bif am (aC (ky t)) k then some (tv t) else lk k) (bt (aC (ky t)) (tv t) ck es) ck2 (fw ky t S) st where
 look:=by
  funext k
  rw [h.look]
  simp only
  rw [md t (λz=>am (aC z) k)]
  rcases xT k with ⟨z,hz⟩ | hz
  ·simp only [hz]
   cases hc:ky t==z
   ·rw [cond_false]
    cases hf:S.find? λs=>ky s==z with
    |none=>rfl
    |some s=>
     have h1:ky s=z:=by simpa using find?_some hf
     have:(ky s==ky t)=false:=by
      rw [beq_eq_false_iff_ne] at hc ⊢
      exact λe=>hc (e.symm.trans h1)
     simp [this]
   ·rw [beq_iff_eq] at hc
    obtain ⟨s,hs⟩:=hn
    rw [←hc,hs]
    have h1:(ky s==ky t)=true:=find?_some (p:=λs=>ky s==ky t) hs
    simp [h1]
  ·have e:∀l:List α,l.find? (λ_=>false)=none:=λl=>by induction l<;>simp_all
   simp only [hz,cond_false,e];rfl
 ents:=by rw [h.ents];exact xV t ck h.slen h.nd hn
 slen:=by rw [h.slen];simp [fw]
 nd:=by rw [py];exact h.nd
 ids:=λs hs=>by
  have:ky s∈(fw ky t S).map ky:=mem_map_of_mem hs
  rw [py] at this
  obtain ⟨u,hu,he⟩:=mem_map.1 this
  rw [←he];exact h.ids u hu
 born:=λb hb=>by have:=h.born b hb;omega
 borns:=h.borns
end
end
section
open Go.RowKit
abbrev Bk:=Int × Int × Int
def bd (b:Bk):List TV:= [.val (.int .i64 b.1),.val (.int .u32 b.2.1),.val (.int .i64 b.2.2)]
def bw (s:Bk):List TV:= [.val (.int .i64 s.1),.val (.int .i64 s.2.1),.val (.int .u64 s.2.2)]
def KA (pr s d sp dp:Int):TV:=.agg [.val (.int .i64 pr),.val (.int .u32 s),.val (.int .u32 d),.val (.int .i64 sp),.val (.int .i64 dp)]
theorem jL (f h:Nat→Option Nat)(l:List Bk):bL f h (l.map bd)=l.map bd:=sD _ (λ_=>rfl) l
theorem mf (f h:Nat→Option Nat)(l:List Bk):bL f h (l.map bw)=l.map bw:=sD _ (λ_=>rfl) l
end
section
open Go.RowKit Go.Maps Go.Sort
section
variable {α:Type}{ky:α→Int}
def cd (ky:α→Int)(S:List α):List Int:=(S.map ky).mergeSort leI
theorem xW (S:List α):(cd ky S).length=S.length:=by simp [cd,List.length_mergeSort]
theorem xX {S:List α}{z:Int}:z∈cd ky S ↔ z∈S.map ky:=(List.mergeSort_perm (S.map ky) leI).mem_iff
def dB (ky:α→Int)(S:List α)(z:Int):Option α:=S.find? λs=>ky s==z
theorem G8 {S:List α}{z:Int}(h:z∈cd ky S):∃s,dB ky S z=some s∧s∈S∧ky s=z:=by
 obtain ⟨s0,hs0,he⟩:=mem_map.1 (xX.1 h)
 cases hf:dB ky S z with
 |none=>
  have:=find?_eq_none.1 hf s0 hs0
  simp [he] at this
 |some s=>exact ⟨s,rfl,List.mem_of_find?_eq_some hf,by simpa using find?_some hf⟩
theorem mg:∀{S:List α} {s:α},(S.map ky).Nodup→s∈S→dB ky S (ky s)=some s
 |[],_,_,h=>by simp at h
 |t::S,s,hd,h=>by
  obtain ⟨h1,h2⟩:=nodup_cons.1 (show (ky t::S.map ky).Nodup from hd)
  unfold dB
  rw [find?_cons]
  rcases mem_cons.1 h with rfl | h
  ·simp
  ·have:(ky t==ky s)=false:=by
    rw [beq_eq_false_iff_ne]
    intro e
    exact h1 (by rw [e];exact mem_map_of_mem h)
   rw [this]
   exact mg h2 h
def jy (ky:α→Int)(p:α→Bool)(S:List α)(l:List Int):List α:=(l.filterMap (dB ky S)).filter p
theorem pz {S:List α}(hd:(S.map ky).Nodup){p:α→Bool}{s:α}:s∈jy ky p S (cd ky S) ↔ s∈S∧p s=true:=by
 unfold jy
 rw [List.mem_filter,List.mem_filterMap]
 constructor
 ·rintro ⟨⟨z,_,hf⟩,hp⟩
  exact ⟨List.mem_of_find?_eq_some hf,hp⟩
 ·rintro ⟨hs,hp⟩
  exact ⟨⟨ky s,xX.2 (mem_map_of_mem hs),mg hd hs⟩,hp⟩
theorem BB {S:List α}{p:α→Bool}{l:List Int}{j:Nat}{z:Int}{s:α}(hz:l[j]?=some z)(hs:dB ky S z=some s):jy ky p S (l.take (j+1))=jy ky p S (l.take j)++bif p s then [s] else []:=by
 unfold jy
 rw [List.take_add_one,hz,List.filterMap_append,List.filter_append]
 congr 1
 simp only [Option.toList_some,List.filterMap_cons,List.filterMap_nil,hs]
 cases h:p s<;>simp [h]
theorem xY {S:List α}{p:α→Bool}{l:List Int}:(jy ky p S l).length≤l.length:=by
 unfold jy
 exact le_trans (List.length_filter_le _ _) (List.length_filterMap_le _ _)
end
abbrev Mb:=Bk × Bool × Bool
def aS (m:Mb):Int:=m.1.1
def aF (m:Mb):List TV:= [.val (.int .i64 m.1.1),.val (.int .u32 m.1.2.1),.val (.int .i64 m.1.2.2),.val (.bool m.2.1),.val (.bool m.2.2)]
def mh (m:Mb):TV:=.agg (aF m)
def FS:Mb:=((0,0,0),false,false)
def dv (m:Mb):Bool:=m.2.1&& !m.2.2
def lh (m:Mb):Bool:=dv m&&decide (0<m.1.2.2)
def dI (S:List Mb):List Bk:=(jy aS lh S (cd aS S)).map (·.1)
structure KB (S:List Mb):Prop where
 few:S.length≤16
 nd:(S.map aS).Nodup
 wt:∀m∈S,0≤m.1.2.2∧m.1.2.2≤100
def bF (p:Mb→Bool):List Mb→Int
 |[]=>0
 |m::S=>(bif p m then m.1.2.2 else 0)+bF p S
theorem nT {p:Mb→Bool}:∀{S:List Mb},(∀m∈S,0≤m.1.2.2∧m.1.2.2≤100)→0≤bF p S∧bF p S≤100*S.length
 |[],_=>by simp [bF]
 |m::S,h=>by
  have h1:=nT (p:=p) (S:=S) λx hx=>h x (mem_cons_of_mem _ hx)
  have h2:=h m mem_cons_self
  unfold bF
  simp only [length_cons]
  cases p m<;>simp only [cond_true,cond_false]<;>omega
theorem CQ {p:Mb→Bool}{S S':List Mb}(h:S.Perm S'):bF p S=bF p S':=by
 induction h with
 |nil=>rfl
 |cons x _ ih=>simp only [bF,ih]
 |swap x y l=>simp only [bF];omega
 |trans _ _ h1 h2=>exact h1.trans h2
theorem rP {p:Mb→Bool}(m:Mb):∀S:List Mb,bF p (S++ [m])=bF p S+bif p m then m.1.2.2 else 0
 |[]=>by simp [bF]
 |x::S=>by
  show (_+bF p (S++ [m]))=_
  rw [rP m S];simp only [bF];omega
def uF (n:Int)(S:List Mb):Bool:=decide (0<bF dv S)&&decide (n*bF (λ_=>true) S≤100*bF dv S)
theorem EZ {S:List Mb}(hd:(S.map aS).Nodup){b:Bk}:b∈dI S ↔ ∃m∈S,m.1=b∧lh m=true:=by
 unfold dI
 rw [mem_map]
 constructor
 ·rintro ⟨m,hm,rfl⟩
  exact ⟨m,((pz hd).1 hm).1,rfl,((pz hd).1 hm).2⟩
 ·rintro ⟨m,h1,rfl,h2⟩
  exact ⟨m,(pz hd).2 ⟨h1,h2⟩,rfl⟩
end
section
open Go.RowKit
def eG (id:Nat):Code→Option Code
 | .region i ops d=>bif beq i id then some (.region i ops d) else none
 | .block _ c=>eG id c
 | .seq a b=>match eG id a with
  |some c=>some c
  |none=>eG id b
 | .cond _ a b=>match eG id a with
  |some c=>some c
  |none=>eG id b
 | .loop c=>eG id c
 | .scope c=>eG id c
 |_=>none
def dC (P:Program)(f:FuncId)(id:Nat):Code:=(eG id (CH P f)).getD .skip
section
variable {P:Program}{G:aD}
def uG (i:Nat)(a:bH × Code)(j:Nat)(b:bH × Code):Nat→Option (bH × Code):=λk=>bif beq k i then some a else bif beq k j then some b else none
theorem zL {i j:Nat}{a b:bH × Code}(ha:∀rd ro σ T D K,a.1 rd ro σ T D K→VWx P G rd ro a.2 σ T D K)(hb:∀rd ro σ T D K,b.1 rd ro σ T D K→VWx P G rd ro b.2 σ T D K):ek P G (uG i a j b):=by
 intro k W c h
 unfold uG at h
 cases h1:beq k i
 ·rw [h1,cond_false] at h
  cases h2:beq k j
  ·rw [h2,cond_false] at h;cases h
  ·rw [h2,cond_true] at h
   cases h;exact hb
 ·rw [h1,cond_true] at h
  cases h;exact ha
end
end
section
open Go.RowKit
def xZ (since:Nat)(seen:List Nat)(es:List (Value × TV × Nat)):Prop:=ci since seen es= []
def uH (k:Value)(v:TV)(s since:Nat)(seen:List Nat)(es:List (Value × TV × Nat)):Prop:=(k,v,s)∈ci since seen es++gO since seen es
def qY (it a b:Nat):bH:=λ_ ro σ T D K=>match σ.getD it .dead with
 | .ptr i 0=>match T.objs[i]? with
  |some (.iter (.map m) since seen stepped)=>match T.objs[m]? with
   |some (.map _ _ es ck)=>(ble ro i=true∧gi seen stepped es=false∧ble (a+1) σ.length=true)∧
    (xZ since seen es→K .normal ((σ.set a (.tup [.val (.bool false)])).set b (.val (.bool false))) T D)∧
    ∀(k:Value) (v:TV) (s:Nat),uH k v s since seen es→K .normal ((σ.set a (.tup [.val (.bool true),.val k,v])).set b (.val (.bool true))) (T.setIter i (.map m) since (seen++ [s]) ck) D
   |_=>False
  |_=>False
 |_=>False
def Io (it a b:Nat):Code→Bool
 | .region _ ops false=>match ops.toList with
  |[⟨some a1,.next (.tmp i1) false,_,_,_,none⟩,⟨some b1,.extract (.tmp a2) 0,_,_,_,none⟩]=>beq a1 a&&(beq i1 it&&(beq b1 b&&beq a2 a))
  |_=>false
 |_=>false
section
variable {P:Program}{G:aD}
theorem zM {α:Type}{k:α→Prop}:∀{l:List α},(∀a∈l,k a)→xf k l
 |[],_=>trivial
 |[a],h=>h a mem_cons_self
 |a::b::l,h=>⟨h a mem_cons_self,zM λc hc=>h c (mem_cons_of_mem _ hc)⟩
theorem CR:dV P G λ_ _ _ _ _=>False:=by
 intro ro f xs T K h
 exact h.elim
theorem E0:fb P G λ_ _ _ _ _=>False:=by
 intro ro id xs T K h
 exact h.elim
theorem G9 {T:VT}{ro a:Nat}{ev:Operand→TV}{x:TV}{l:List TV}(h:ev (.tmp a)=.tup (x::l)):eY P ro T (.extract (.tmp a) 0) ev=some (x,T):=by
 unfold eY
 have e:aR P (.extract (.tmp a) 0) ev=some x:=by
  simp [aR,cN,h]
 rw [e]
theorem ti {it a b:Nat}{c:Code}(hc:Io it a b c=true):∀rd ro σ T D K,qY it a b rd ro σ T D K→VWx P G rd ro c σ T D K:=by
 intro rd ro σ T D K h
 unfold Io at hc
 split at hc
 ·rename_i id ops
  split at hc
  ·rename_i a1 i1 ty1 p1 af1 b1 a2 ty2 p2 af2 hops
   simp only [and_eq_true] at hc
   obtain ⟨c1,c2,c3,c4⟩:=hc
   obtain rfl:=eq_of_beq_eq_true c1
   obtain rfl:=eq_of_beq_eq_true c2
   obtain rfl:=eq_of_beq_eq_true c3
   obtain rfl:=eq_of_beq_eq_true c4
   refine sV (F:=bx) CR E0 ?_
   rw [hops]
   unfold qY at h
   split at h
   ·rename_i i hi
    split at h
    ·rename_i m since seen stepped hio
     split at h
     ·rename_i sh lk es ck hm
      obtain ⟨⟨h1,h2,h3⟩,hE,hK⟩:=h
      have hlt:=le_of_ble_eq_true h3
      have hx:oO T (.ptr i 0)=some (i,(bif (ci since seen es).isEmpty then [(.tup [.val (.bool false)],T)] else [])++
        ((ci since seen es)++(gO since seen es)).map λe=>(.tup [.val (.bool true),.val e.1,e.2.1],T.setIter i (.map m) since (seen++ [e.2.2]) ck)):=by
       simp only [oO,hio,hm,h2,cond_false]
      have go:∀(x:TV) (l:List TV) (T':VT),K .normal ((σ.set a2 (.tup (x::l))).set b1 x) T' D→oV P G bx (λ_ _ _ _ _=>False) (λ_ _ _ _ _=>False) ro ops [⟨some b1,.extract (.tmp a2) 0,ty2,p2,af2,none⟩] (aW σ (some a2) (.tup (x::l))) T' λσ T=>K .normal σ T D:=by
       intro x l T' hk
       have he:=G9 (P:=P) (T:=T') (ro:=ro) (a:=a2) (ev:=aI G (σ.set a2 (.tup (x::l)))) (x:=x) (l:=l) (by simp only [aI,List.getD_eq_getElem?_getD];rw [List.getElem?_set_self (by omega)];rfl)
       simp only [oV,dF,bv,cond_true,gm,xl,bx,xk,aW,he]
       exact hk
      show dF ops _ σ _
      simp only [dF,bv,cond_true,gm,xl,bx,xk,aI,hi,hx,h1]
      refine zM λp hp=> ?_
      rcases mem_append.1 hp with hp | hp
      ·cases he:(ci since seen es).isEmpty with
       |false=>rw [he] at hp;cases hp
       |true=>
        rw [he] at hp
        obtain rfl:=mem_singleton.1 hp
        exact go _ _ _ (hE (List.isEmpty_iff.1 he))
      ·obtain ⟨⟨k,v,s⟩,hs,rfl⟩:=mem_map.1 hp
       exact go _ _ _ (hK k v s hs)
     ·exact h.elim
    ·exact h.elim
   ·exact h.elim
  ·cases hc
 ·cases hc
end
end
section
open Go.RowKit
abbrev CS:=27
abbrev FT:=43
abbrev CT:=10
abbrev tj:=56
abbrev tp:=20
abbrev x9:=18
abbrev CU:=19
abbrev E1:=60
abbrev E2:=57
abbrev E3:=58
abbrev CV:=11
abbrev fj:=77
abbrev jM:=51
abbrev rQ:=78
abbrev CW:=14
abbrev ya:=50
abbrev qZ:=49
abbrev wC:=96
abbrev Es:=List (Value × TV × Nat)
def gA (i a c:Int):List TV:= [.val (.int .i64 i),.val (.int .u32 a),.val (.int .i64 c)]
def eH (i a c:Int)(u d:Bool):List TV:= [.val (.int .i64 i),.val (.int .u32 a),.val (.int .i64 c),.val (.bool u),.val (.bool d)]
def pO (n:Int):VO:=.cells [.val (.int .i64 n),.map 1]
def pT (n:Int)(lk:Value→Option TV)(es:Es)(ck:Nat):VT:=⟨[pO n,.map kI lk es ck],[]⟩
def yb (n:Int)(lk:Value→Option TV)(es:Es)(ck:Nat)(x:TV):VT:=⟨[pO n,.map kI lk es ck,.cells [x]],[]⟩
def LB (i j:Nat)(n:Int)(lk:Value→Option TV)(es:Es)(ck:Nat)(ys0:List TV)(x0:TV):ba:=λro ys T K=>(ro=0∧ys=ys0∧T.objs[i]?=some (.cells [.val (.int .i64 n),.map j])∧T.objs[j]?=some (.map kI lk es ck))∧K x0 T
def LC (n:Int)(lk:Value→Option TV)(es:Es)(ck:Nat)(z:Int)(mb:List TV)(b:Bool):ba:=LB 0 1 n lk es ck [.ptr 0 0,.val (.int .i64 z)] (.tup [.agg mb,.val (.bool b)])
def zN (n:Int)(lk:Value→Option TV)(es:Es)(ck:Nat)(x:TV)(z:Int)(g:Nat)(Ch:Int→(Value→Option TV)→Es→Nat→Prop):ba:=λro ys T K=>(ro=0∧ys= [.ptr 0 0,.val (.int .i64 z),.fn (.func g) [] [.ptr 2 0]]∧T=yb n lk es ck x)∧∀(e:Int) (lk':Value→Option TV) (es':Es) (ck':Nat),Ch e lk' es' ck'→K (.val (.int .i64 e)) (yb n lk' es' ck' x)
def FU (n:Int)(lk:Value→Option TV)(es:Es)(ck:Nat)(h t:Int):ba:=λro ys T K=>match ys with
 |[.ptr 0 0,.fn (.func g) [] []]=>(ro=0∧(g=jM∨g=rQ)∧T=pT n lk es ck)∧K (.val (.int .i64 (bif beq g jM then h else t))) T
 |_=>aG 84 default ys
def mj:List Nat:= [0,1,5,14]
def i8 (g:Nat)(h:Int):List TV:= [.ptr 0 0,.fn (.func g) [] [],.val (.int .i64 h),.ptr 2 0]
def jN (n:Int)(lk:Value→Option TV)(es:Es)(ck:Nat)(seen:List Nat):VT:=⟨[pO n,.map kI lk es ck,.iter (.map 1) ck seen ck],[]⟩
def MA (n:Int)(lk:Value→Option TV)(es:Es)(ck:Nat)(g:Nat)(h:Int)(c0:Code):Nat→Option (bH × Code):=dk [(0,ig 28 mj [] (i8 g 0) (jN n lk es ck []) (λK=>∀seen:List Nat,K .normal (ay 28 mj (i8 g h)) (jN n lk es ck seen) []),c0)]
noncomputable def LD (eI eA eC:List Nat→Int)(eU eD:List Nat→Bool):iR:=λ(o:Oper) (_:List TV) (T:VT)=>match o.dst with
 |some 17=>match T.objs[2]? with
  |some (VO.iter _ _ seen _)=>some (.tup [.val (.int .i64 (eI seen)),.agg (eH (eI seen) (eA seen) (eC seen) (eU seen) (eD seen))],some T)
  |_=>none
 |_=>none
def Ip (T0:VT)(ids:List (List TV)):ba:=λro ys T K=>(ro=0∧ys= [.fn (.func wC) [] [.ptr 2 0]]∧T=T0)∧K (.vec 1 ids .none) T
def CX:List Nat:= [0,1,5,17,18,19]
def yc (ids L:List (List TV))(j:Int):List TV:= [.ptr 0 0,.fn (.func ya) [] [],.vec 3 L (.tail 0 L.length),.vec 1 ids .none,.val (.int .i64 ids.length),.val (.int .i64 j)]
def yd (n:Int)(lk:Value→Option TV)(es:Es)(ck k:Nat):VT:=⟨[pO n,.map kI lk es ck,.cells [.map 1]],[(k,3,true)]⟩
def LE (n:Int)(lk:Value→Option TV)(es:Es)(ck:Nat)(ids S:List (List TV))(c0:Code):Nat→Option (bH × Code):=dk [(0,ig 39 CX [(5,3)] (yc ids [] 0) (yd n lk es ck 0) λK=>K .normal (ay 39 CX (yc ids S ids.length)) (yd n lk es ck S.length) [],c0)]
def LF (n:Int)(lk:Value→Option TV)(es:Es)(ck:Nat)(S:List (List TV)):ba:=λro ys T K=>(ro=0∧ys= [.ptr 0 0,.fn (.func ya) [] []]∧T=pT n lk es ck)∧K (.vec 3 S .none) T
theorem KC (n:Int)(lk:Value→Option TV)(es:Es)(ck:Nat)(i a c i' a' c':Int)(u' d' b:Bool)(Q:TV→VT→Prop):aH prog ae cT (Ia [(36,.tup [.agg (eH i' a' c' u' d'),.val (.bool b)])]) 300 bo 0 CS [.ptr 0 0,.agg (gA i a c)] (pT n lk es ck) Q=
 (bif decide (i<(0:Int))
 then Q gv (uD n (.map 1) (.map ⟨false,[(.int .i64)]⟩ (lk) (es) (ck)) i a c)
 else (bif decide (i>(255:Int))
 then Q gv (uD n (.map 1) (.map ⟨false,[(.int .i64)]⟩ (lk) (es) (ck)) i a c)
 else (bif bN eql (am (Value.int u32 a) (Value.int u32 (0:Int)))
 then Q gv (uD n (.map 1) (.map ⟨false,[(.int .i64)]⟩ (lk) (es) (ck)) i a c)
 else (bif decide (c≥(0:Int))
 then (bif !decide (c≤(100:Int))
 then Q gv (uD n (.map 1) (.map ⟨false,[(.int .i64)]⟩ (lk) (es) (ck)) i a c)
 else (A3 prog (uD n (.map 1) (.map ⟨false,[(.int .i64)]⟩ (lk) (es) (ck)) i a c) 108 (.map 1) (ar i) true (uB i' a' c' u' d' b)∧
 (bif b
 then Q (.val (.int .i64 13)) (EY n (.map 1) (.map ⟨false,[(.int .i64)]⟩ (lk) (es) (ck)) i a c i' a' c' u' d')
 else (bif decide ((↑(length es):Int)≥(16:Int))
 then Q (.val (.int .i64 6)) (EY n (.map 1) (.map ⟨false,[(.int .i64)]⟩ (lk) (es) (ck)) i a c i' a' c' u' d')
 else Q bu (EY n (.map 1) (.map ⟨false,[(.int .i64)]⟩ (λkk=>(bif am (Value.int i64 i) kk then (.some (.agg [(.val (.int .i64 (i))),(.val (.int .u32 (a))),(.val (.int .i64 (c))),(.val (.bool false)),(.val (.bool false))])) else (lk kk))) (bt (.int .i64 (i)) (.agg [(.val (.int .i64 (i))),(.val (.int .u32 (a))),(.val (.int .i64 (c))),(.val (.bool false)),(.val (.bool false))]) (ck) (es)) (match lk (Value.int i64 i) with
|some val=>ck
|none=>ck+(1:Nat))) i a c i' a' c' u' d')))))
 else Q gv (uD n (.map 1) (.map ⟨false,[(.int .i64)]⟩ (lk) (es) (ck)) i a c))))):=by kernel_rfl
theorem KD (n:Int)(lk:Value→Option TV)(es:Es)(ck:Nat)(z i' a' c':Int)(u' d' b:Bool)(Q:TV→VT→Prop):aH prog ae cT (bp [(18,.tup [.agg (eH i' a' c' u' d'),.val (.bool b)],some λT=>T)]) 300 bo 0 FT [.ptr 0 0,.val (.int .i64 z)] (pT n lk es ck) Q=
 (aM prog (λ_=>.none) 0 (Ii n (.map 1) (.map ⟨false,[(.int .i64)]⟩ (lk) (es) (ck))) (.lookup 108 (.tmp 16) (.tmp 17) true) [(16,(.map 1)),(17,(ar z))] (uB i' a' c' u' d' b) (Ii n (.map 1) (.map ⟨false,[(.int .i64)]⟩ (lk) (es) (ck)))∧
 Q (uB i' a' c' u' d' b) ⟨[(eo n (.map 1)),(.map ⟨false,[(.int .i64)]⟩ (lk) (es) (ck)),(lg i' a' c' u' d'),(lg i' a' c' u' d')],[]⟩):=by kernel_rfl
theorem KE (n:Int)(lk:Value→Option TV)(es:Es)(ck:Nat)(q:Bool)(z i' a' c':Int)(u' d' b:Bool)(Q:TV→VT→Prop):aH prog ae cT (bp [(19,.tup [.agg (eH i' a' c' u' d'),.val (.bool b)],some λT=>T)]) 300 bo 0 tj [.ptr 0 0,.val (.int .i64 z),.fn (.func E1) [] [.ptr 2 0]] (yb n lk es ck (fh q)) Q=
 (aM prog (λ_=>.none) 0 (mD n (.map 1) (.map ⟨false,[(.int .i64)]⟩ (lk) (es) (ck)) q) (.lookup 108 (.tmp 17) (.tmp 18) true) [(17,(.map 1)),(18,(ar z))] (uB i' a' c' u' d' b) (mD n (.map 1) (.map ⟨false,[(.int .i64)]⟩ (lk) (es) (ck)) q)∧
 (bif !b
 then Q BA (Bz n (.map 1) (.map ⟨false,[(.int .i64)]⟩ (lk) (es) (ck)) q i' a' c' u' d')
 else Q bu (Bz n (.map 1) (.map ⟨false,[(.int .i64)]⟩ (λkk=>(bif am (Value.int i64 z) kk then (.some (.agg [(.val (.int .i64 (i'))),(.val (.int .u32 (a'))),(.val (.int .i64 (c'))),(.val (.bool (q))),(.val (.bool (d')))])) else (lk kk))) (bt (.int .i64 (z)) (.agg [(.val (.int .i64 (i'))),(.val (.int .u32 (a'))),(.val (.int .i64 (c'))),(.val (.bool (q))),(.val (.bool (d')))]) (ck) (es)) (match lk (Value.int i64 z) with
|some val=>ck
|none=>ck+(1:Nat))) q i' a' c' q d'))):=by kernel_rfl
theorem KF (n:Int)(lk:Value→Option TV)(es:Es)(ck:Nat)(q:Bool)(z i' a' c':Int)(u' d' b:Bool)(Q:TV→VT→Prop):aH prog ae cT (bp [(19,.tup [.agg (eH i' a' c' u' d'),.val (.bool b)],some λT=>T)]) 300 bo 0 tj [.ptr 0 0,.val (.int .i64 z),.fn (.func E2) [] [.ptr 2 0]] (yb n lk es ck (fh q)) Q=
 (aM prog (λ_=>.none) 0 (mD n (.map 1) (.map ⟨false,[(.int .i64)]⟩ (lk) (es) (ck)) q) (.lookup 108 (.tmp 17) (.tmp 18) true) [(17,(.map 1)),(18,(ar z))] (uB i' a' c' u' d' b) (mD n (.map 1) (.map ⟨false,[(.int .i64)]⟩ (lk) (es) (ck)) q)∧
 (bif !b
 then Q BA (Bz n (.map 1) (.map ⟨false,[(.int .i64)]⟩ (lk) (es) (ck)) q i' a' c' u' d')
 else Q bu (Bz n (.map 1) (.map ⟨false,[(.int .i64)]⟩ (λkk=>(bif am (Value.int i64 z) kk then (.some (.agg [(.val (.int .i64 (i'))),(.val (.int .u32 (a'))),(.val (.int .i64 (c'))),(.val (.bool (u'))),(.val (.bool (q)))])) else (lk kk))) (bt (.int .i64 (z)) (.agg [(.val (.int .i64 (i'))),(.val (.int .u32 (a'))),(.val (.int .i64 (c'))),(.val (.bool (u'))),(.val (.bool (q)))]) (ck) (es)) (match lk (Value.int i64 z) with
|some val=>ck
|none=>ck+(1:Nat))) q i' a' c' u' q))):=by kernel_rfl
theorem KG (n:Int)(lk:Value→Option TV)(es:Es)(ck:Nat)(q z i' a' c':Int)(u' d' b:Bool)(Q:TV→VT→Prop):aH prog ae cT (bp [(19,.tup [.agg (eH i' a' c' u' d'),.val (.bool b)],some λT=>T)]) 300 bo 0 tj [.ptr 0 0,.val (.int .i64 z),.fn (.func E3) [] [.ptr 2 0]] (yb n lk es ck (ar q)) Q=
 (aM prog (λ_=>.none) 0 (xO n (.map 1) (.map ⟨false,[(.int .i64)]⟩ (lk) (es) (ck)) q) (.lookup 108 (.tmp 17) (.tmp 18) true) [(17,(.map 1)),(18,(ar z))] (uB i' a' c' u' d' b) (xO n (.map 1) (.map ⟨false,[(.int .i64)]⟩ (lk) (es) (ck)) q)∧
 (bif !b
 then Q BA (By n (.map 1) (.map ⟨false,[(.int .i64)]⟩ (lk) (es) (ck)) q i' a' c' u' d')
 else (bif decide (q≥(0:Int))
 then (bif !decide (q≤(100:Int))
 then Q gv (By n (.map 1) (.map ⟨false,[(.int .i64)]⟩ (lk) (es) (ck)) q i' a' c' u' d')
 else Q bu (By n (.map 1) (.map ⟨false,[(.int .i64)]⟩ (λkk=>(bif am (Value.int i64 z) kk then (.some (.agg [(.val (.int .i64 (i'))),(.val (.int .u32 (a'))),(.val (.int .i64 (q))),(.val (.bool (u'))),(.val (.bool (d')))])) else (lk kk))) (bt (.int .i64 (z)) (.agg [(.val (.int .i64 (i'))),(.val (.int .u32 (a'))),(.val (.int .i64 (q))),(.val (.bool (u'))),(.val (.bool (d')))]) (ck) (es)) (match lk (Value.int i64 z) with
|some val=>ck
|none=>ck+(1:Nat))) q i' a' q u' d'))
 else Q gv (By n (.map 1) (.map ⟨false,[(.int .i64)]⟩ (lk) (es) (ck)) q i' a' c' u' d')))):=by kernel_rfl
theorem KH (n:Int)(lk:Value→Option TV)(es:Es)(ck:Nat)(q:Bool)(z:Int)(Ch:Int→(Value→Option TV)→Es→Nat→Prop)(Q:TV→VT→Prop):aH prog ae (az [(tj,zN n lk es ck (fh q) z E1 Ch)]) bx 300 bo 0 tp [.ptr 0 0,.val (.int .i64 z),.val (.bool q)] (pT n lk es ck) Q=
 (((@Eq (Nat) 0 0)∧
 ((@Eq (List TV) (uA z (.fn (.func 60) [] [(.ptr 2 0)])) (uA z (.fn (.func 60) [] [(.ptr 2 0)])))∧
 (@Eq (VT) (mD n (.map 1) (.map ⟨false,[(.int .i64)]⟩ (lk) (es) (ck)) q) (mD n (.map 1) (.map ⟨false,[(.int .i64)]⟩ (lk) (es) (ck)) q))))∧
 (∀e:Int,(∀lk':Value→Option TV,(∀es':Es,(∀ck':Nat,(Ch (e) (lk') (es') (ck')→Q (ar e) (mD n (.map 1) (.map ⟨false,[(.int .i64)]⟩ (lk') (es') (ck')) q))))))):=by kernel_rfl
theorem KI (n:Int)(lk:Value→Option TV)(es:Es)(ck:Nat)(q:Bool)(z:Int)(Ch:Int→(Value→Option TV)→Es→Nat→Prop)(Q:TV→VT→Prop):aH prog ae (az [(tj,zN n lk es ck (fh q) z E2 Ch)]) bx 300 bo 0 x9 [.ptr 0 0,.val (.int .i64 z),.val (.bool q)] (pT n lk es ck) Q=
 (((@Eq (Nat) 0 0)∧
 ((@Eq (List TV) (uA z (.fn (.func 57) [] [(.ptr 2 0)])) (uA z (.fn (.func 57) [] [(.ptr 2 0)])))∧
 (@Eq (VT) (mD n (.map 1) (.map ⟨false,[(.int .i64)]⟩ (lk) (es) (ck)) q) (mD n (.map 1) (.map ⟨false,[(.int .i64)]⟩ (lk) (es) (ck)) q))))∧
 (∀e:Int,(∀lk':Value→Option TV,(∀es':Es,(∀ck':Nat,(Ch (e) (lk') (es') (ck')→Q (ar e) (mD n (.map 1) (.map ⟨false,[(.int .i64)]⟩ (lk') (es') (ck')) q))))))):=by kernel_rfl
theorem KJ (n:Int)(lk:Value→Option TV)(es:Es)(ck:Nat)(q z:Int)(Ch:Int→(Value→Option TV)→Es→Nat→Prop)(Q:TV→VT→Prop):aH prog ae (az [(tj,zN n lk es ck (ar q) z E3 Ch)]) bx 300 bo 0 CU [.ptr 0 0,.val (.int .i64 z),.val (.int .i64 q)] (pT n lk es ck) Q=
 (((@Eq (Nat) 0 0)∧
 ((@Eq (List TV) (uA z (.fn (.func 58) [] [(.ptr 2 0)])) (uA z (.fn (.func 58) [] [(.ptr 2 0)])))∧
 (@Eq (VT) (xO n (.map 1) (.map ⟨false,[(.int .i64)]⟩ (lk) (es) (ck)) q) (xO n (.map 1) (.map ⟨false,[(.int .i64)]⟩ (lk) (es) (ck)) q))))∧
 (∀e:Int,(∀lk':Value→Option TV,(∀es':Es,(∀ck':Nat,(Ch (e) (lk') (es') (ck')→Q (ar e) (xO n (.map 1) (.map ⟨false,[(.int .i64)]⟩ (lk') (es') (ck')) q))))))):=by kernel_rfl
theorem KK (n:Int)(lk:Value→Option TV)(es:Es)(ck:Nat)(z i a c:Int)(u d b:Bool)(Q:TV→VT→Prop):aH prog ae (az [(FT,LC n lk es ck z (eH i a c u d) b)]) bx 300 bo 0 CT [.ptr 0 0,.val (.int .i64 z)] (pT n lk es ck) Q=
 (((@Eq (Nat) 0 0)∧
 ((@Eq (List TV) (uz z) (uz z))∧
 ((@Eq (Option VO) (.some (eo n (.map 1))) (.some (eo n (.map 1))))∧
 (@Eq (Option VO) (.some (.map ⟨false,[(.int .i64)]⟩ (lk) (es) (ck))) (.some (.map ⟨false,[(.int .i64)]⟩ (lk) (es) (ck)))))))∧
 Q (fh u) ⟨[(eo n (.map 1)),(.map ⟨false,[(.int .i64)]⟩ (lk) (es) (ck)),(lg i a c u d)],[]⟩):=by kernel_rfl
theorem KL (n:Int)(lk:Value→Option TV)(es:Es)(ck:Nat)(h t:Int)(Q:TV→VT→Prop):aH prog ae (az [(fj,FU n lk es ck h t)]) (bp [(999998,.dead,none)]) 300 bo 0 CV [.ptr 0 0] (pT n lk es ck) Q=
 (((@Eq (Nat) 0 0)∧
 (Or (@Eq (FuncId) 51 51) (@Eq (FuncId) 51 78)∧
 (@Eq (VT) (iq n (.map 1) (.map ⟨false,[(.int .i64)]⟩ (lk) (es) (ck))) (iq n (.map 1) (.map ⟨false,[(.int .i64)]⟩ (lk) (es) (ck))))))∧
 (((@Eq (Option TV) (.some (ar n)) (.some (ar n)))∧
 True)∧
 (((@Eq (Nat) 0 0)∧
 (Or (@Eq (FuncId) 78 51) (@Eq (FuncId) 78 78)∧
 (@Eq (VT) (iq n (.map 1) (.map ⟨false,[(.int .i64)]⟩ (lk) (es) (ck))) (iq n (.map 1) (.map ⟨false,[(.int .i64)]⟩ (lk) (es) (ck))))))∧
 (((@Eq (Option TV) (.some (ar n)) (.some (ar n)))∧
 True)∧
 (bif decide ((bif beq (51:Nat) jM then h else t)<(0:Int))
 then Q dG (iq n (.map 1) (.map ⟨false,[(.int .i64)]⟩ (lk) (es) (ck)))
 else (bif decide ((bif beq (51:Nat) jM then h else t)>(1000000:Int))
 then Q dG (iq n (.map 1) (.map ⟨false,[(.int .i64)]⟩ (lk) (es) (ck)))
 else (bif decide ((bif beq (78:Nat) jM then h else t)<(0:Int))
 then Q dG (iq n (.map 1) (.map ⟨false,[(.int .i64)]⟩ (lk) (es) (ck)))
 else (bif decide ((bif beq (78:Nat) jM then h else t)>(1000000:Int))
 then Q dG (iq n (.map 1) (.map ⟨false,[(.int .i64)]⟩ (lk) (es) (ck)))
 else (bif decide (n<(0:Int))
 then Q dG (iq n (.map 1) (.map ⟨false,[(.int .i64)]⟩ (lk) (es) (ck)))
 else (bif decide (n>(1000000:Int))
 then Q dG (iq n (.map 1) (.map ⟨false,[(.int .i64)]⟩ (lk) (es) (ck)))
 else (bif decide ((bif beq (51:Nat) jM then h else t)>(0:Int))
 then Q (fh (decide (wrap i64 ((100:Int)*bif beq (51:Nat) jM then h else t)≥wrap i64 (n*bif beq (78:Nat) jM then h else t)))) (iq n (.map 1) (.map ⟨false,[(.int .i64)]⟩ (lk) (es) (ck)))
 else Q dG (iq n (.map 1) (.map ⟨false,[(.int .i64)]⟩ (lk) (es) (ck)))))))))))))):=by kernel_rfl
theorem KM (n:Int)(lk:Value→Option TV)(es:Es)(ck:Nat)(g:Nat)(h:Int)(Q:TV→VT→Prop):aH prog ae cT bx 300 (MA n lk es ck g h (ax prog fj 0)) 0 fj [.ptr 0 0,.fn (.func g) [] []] (pT n lk es ck) Q=
 ((ax prog fj (0:Nat)=ax prog fj (0:Nat))∧
 (((@Eq (Option Nat) .none .none)∧
 ((@Eq (Nat) 0 0)∧
 ((@Eq (List Nat) [] [])∧
 (True  ∧
 ((@Eq (VT) (nQ n (.map 1) (.map ⟨false,[(.int .i64)]⟩ (lk) (es) (ck)) (.iter (.map 1) (ck) [] (ck))) (nQ n (.map 1) (.map ⟨false,[(.int .i64)]⟩ (lk) (es) (ck)) (.iter (.map 1) (ck) [] (ck))))∧
 ((@Eq (Bool) true true)∧
 (@Eq (List TV) [dZ,(.fn (.func (g)) [] []),bu,j3] [dZ,(.fn (.func (g)) [] []),bu,j3])))))))∧
 (∀seen:List Nat,Q (ar h) (nQ n (.map 1) (.map ⟨false,[(.int .i64)]⟩ (lk) (es) (ck)) (.iter (.map 1) (ck) (seen) (ck)))))):=by kernel_rfl
theorem Iq (n:Int)(lk:Value→Option TV)(es:Es)(ck:Nat)(h:Int)(seen:List Nat)(eI eA eC:List Nat→Int)(eU eD:List Nat→Bool)(Q:Exit→List TV→VT→List Nat→Nat→Prop):vx prog ae cT (LD eI eA eC eU eD) 300 (uG 1000004 (qY 14 15 16,dC prog fj 4) 1000999 (qY 14 15 16,dC prog fj 4)) none 0 (dj prog fj 0) (ay 28 mj (i8 jM h)) (jN n lk es ck seen) [] (dm mj Q)=
 ((dC prog fj (4:Nat)=dC prog fj (4:Nat))∧
 (((@Eq (Bool) true true)∧
 ((@Eq (Bool) (gi seen ck es) false)∧
 (@Eq (Bool) true true)))∧
 ((xZ (ck) (seen) (es)→Q (.exit 0) (uy (.fn (.func 51) [] []) h) (nQ n (.map 1) (.map ⟨false,[(.int .i64)]⟩ (lk) (es) (ck)) (.iter (.map 1) (ck) (seen) (ck))) [] 28)∧
 (∀k:Value,(∀v:TV,(∀s:Nat,(uH (k) (v) (s) (ck) (seen) (es)→(aM prog (λ_=>.none) 0 (nQ n (.map 1) (.map ⟨false,[(.int .i64)]⟩ (lk) (es) (ck)) (.iter (.map 1) (ck) (seen++ [s]) (ck))) (.entry (.tmp 14)) [(14,j3)] (.tup [(ar (eI (seen++ [s]))),(Bx (eI (seen++ [s])) (eA (seen++ [s])) (eC (seen++ [s])) (eU (seen++ [s])) (eD (seen++ [s])))]) (nQ n (.map 1) (.map ⟨false,[(.int .i64)]⟩ (lk) (es) (ck)) (.iter (.map 1) (ck) (seen++ [s]) (ck)))∧
 (bif eU (seen++ [s])
 then (bif !eD (seen++ [s])
 then Q .normal (uy (.fn (.func 51) [] []) (wrap i64 (h+eC (seen++ [s])))) (Bw n (.map 1) (.map ⟨false,[(.int .i64)]⟩ (lk) (es) (ck)) (.iter (.map 1) (ck) (seen++ [s]) (ck)) (eI (seen++ [s])) (eA (seen++ [s])) (eC (seen++ [s])) (eU (seen++ [s])) (eD (seen++ [s])) (eI (seen++ [s])) (eA (seen++ [s])) (eC (seen++ [s])) (eU (seen++ [s])) (eD (seen++ [s]))) [] 28
 else Q .normal (uy (.fn (.func 51) [] []) h) (Bw n (.map 1) (.map ⟨false,[(.int .i64)]⟩ (lk) (es) (ck)) (.iter (.map 1) (ck) (seen++ [s]) (ck)) (eI (seen++ [s])) (eA (seen++ [s])) (eC (seen++ [s])) (eU (seen++ [s])) (eD (seen++ [s])) (eI (seen++ [s])) (eA (seen++ [s])) (eC (seen++ [s])) (eU (seen++ [s])) (eD (seen++ [s]))) [] 28)
 else Q .normal (uy (.fn (.func 51) [] []) h) (Bw n (.map 1) (.map ⟨false,[(.int .i64)]⟩ (lk) (es) (ck)) (.iter (.map 1) (ck) (seen++ [s]) (ck)) (eI (seen++ [s])) (eA (seen++ [s])) (eC (seen++ [s])) (eU (seen++ [s])) (eD (seen++ [s])) (eI (seen++ [s])) (eA (seen++ [s])) (eC (seen++ [s])) (eU (seen++ [s])) (eD (seen++ [s]))) [] 28))))))))):=by kernel_rfl
theorem Ir (n:Int)(lk:Value→Option TV)(es:Es)(ck:Nat)(h:Int)(seen:List Nat)(eI eA eC:List Nat→Int)(eU eD:List Nat→Bool)(Q:Exit→List TV→VT→List Nat→Nat→Prop):vx prog ae cT (LD eI eA eC eU eD) 300 (uG 1000004 (qY 14 15 16,dC prog fj 4) 1000999 (qY 14 15 16,dC prog fj 4)) none 0 (dj prog fj 0) (ay 28 mj (i8 rQ h)) (jN n lk es ck seen) [] (dm mj Q)=
 ((dC prog fj (4:Nat)=dC prog fj (4:Nat))∧
 (((@Eq (Bool) true true)∧
 ((@Eq (Bool) (gi seen ck es) false)∧
 (@Eq (Bool) true true)))∧
 ((xZ (ck) (seen) (es)→Q (.exit 0) (uy (.fn (.func 78) [] []) h) (nQ n (.map 1) (.map ⟨false,[(.int .i64)]⟩ (lk) (es) (ck)) (.iter (.map 1) (ck) (seen) (ck))) [] 28)∧
 (∀k:Value,(∀v:TV,(∀s:Nat,(uH (k) (v) (s) (ck) (seen) (es)→(aM prog (λ_=>.none) 0 (nQ n (.map 1) (.map ⟨false,[(.int .i64)]⟩ (lk) (es) (ck)) (.iter (.map 1) (ck) (seen++ [s]) (ck))) (.entry (.tmp 14)) [(14,j3)] (.tup [(ar (eI (seen++ [s]))),(Bx (eI (seen++ [s])) (eA (seen++ [s])) (eC (seen++ [s])) (eU (seen++ [s])) (eD (seen++ [s])))]) (nQ n (.map 1) (.map ⟨false,[(.int .i64)]⟩ (lk) (es) (ck)) (.iter (.map 1) (ck) (seen++ [s]) (ck)))∧
 Q .normal (uy (.fn (.func 78) [] []) (wrap i64 (h+eC (seen++ [s])))) (Bw n (.map 1) (.map ⟨false,[(.int .i64)]⟩ (lk) (es) (ck)) (.iter (.map 1) (ck) (seen++ [s]) (ck)) (eI (seen++ [s])) (eA (seen++ [s])) (eC (seen++ [s])) (eU (seen++ [s])) (eD (seen++ [s])) (eI (seen++ [s])) (eA (seen++ [s])) (eC (seen++ [s])) (eU (seen++ [s])) (eD (seen++ [s]))) [] 28)))))))):=by kernel_rfl
theorem KN (n:Int)(lk:Value→Option TV)(es:Es)(ck:Nat)(ids S:List (List TV))(Q:TV→VT→Prop):aH prog ae (az [(vH,Ip ⟨[pO n,.map kI lk es ck,.cells [.map 1]],[]⟩ ids)]) bx 300 (LE n lk es ck ids S (ax prog qZ 0)) 0 qZ [.ptr 0 0,.fn (.func ya) [] []] (pT n lk es ck) Q=
 (((@Eq (Nat) 0 0)∧
 ((@Eq (List TV) [(.fn (.func 96) [] [j3])] [(.fn (.func 96) [] [j3])])∧
 (@Eq (VT) ⟨[(eo n (.map 1)),(.map ⟨false,[(.int .i64)]⟩ (lk) (es) (ck)),(.cells [(.map 1)])],[]⟩ ⟨[(eo n (.map 1)),(.map ⟨false,[(.int .i64)]⟩ (lk) (es) (ck)),(.cells [(.map 1)])],[]⟩)))∧
 ((ax prog qZ (0:Nat)=ax prog qZ (0:Nat))∧
 (((@Eq (Option Nat) .none .none)∧
 ((@Eq (Nat) 0 0)∧
 ((@Eq (List Nat) [] [])∧
 (((@Eq (Option TV) (.some ep) (.some ep))∧
 True)∧
 ((@Eq (VT) (uw n (.map 1) (.map ⟨false,[(.int .i64)]⟩ (lk) (es) (ck)) (.map 1) [(0,(3,true))]) (uw n (.map 1) (.map ⟨false,[(.int .i64)]⟩ (lk) (es) (ck)) (.map 1) [(0,(3,true))]))∧
 ((@Eq (Bool) true true)∧
 (@Eq (List TV) [dZ,(.fn (.func 50) [] []),j4,(ej ids),(ar (↑(length ids):Int)),bu] [dZ,(.fn (.func 50) [] []),j4,(ej ids),(ar (↑(length ids):Int)),bu])))))))∧
 Q (gz S (length S)) (uw n (.map 1) (.map ⟨false,[(.int .i64)]⟩ (lk) (es) (ck)) (.map 1) [((length S),(3,true))])))):=by kernel_rfl
abbrev E4 (L:List (List TV))(ids:List (List TV))(j:Nat):List TV:=(EX (.fn (.func 50) [] []) L (length L) ids (↑(length ids):Int) (wrap i64 ((↑j:Int)+(1:Int))))
theorem CY (n:Int)(lk:Value→Option TV)(es:Es)(ck:Nat)(ids L:List (List TV))(z i a c:Int)(u d:Bool)(j:Nat)(Q:Exit→List TV→VT→List Nat→Nat→Prop):vx prog ae cT (bp [(999998,.dead,none),(21,.elt [.val (.int .i64 z)],none),(28,.agg (eH i a c u d),some λT=>T),(36,.vec 3 (L++ [gA i a c]) (.tail 0 (L.length+1)),some λT=>{T with tails:= [(L.length+1,3,true)]})]) 300 bo none 0 (dj prog qZ 0) (ay 39 CX (yc ids L j)) (yd n lk es ck L.length) [] (dm CX Q)=
 (bif decide ((↑j:Int)<(↑(length ids):Int))
 then (aJ prog (λ_=>.none) (.indexAddr 25 (.tmp 17) (.tmp 19)) [(17,(ej ids)),(19,(ar (↑j:Int)))] (rO z)∧
 (aM prog (λ_=>.none) 0 (uw n (.map 1) (.map ⟨false,[(.int .i64)]⟩ (lk) (es) (ck)) (.map 1) [((length L),(3,true))]) (.lookup 108 (.tmp 26) (.tmp 27) false) [(26,(.map 1)),(27,(ar z))] (Bx i a c u d) (uw n (.map 1) (.map ⟨false,[(.int .i64)]⟩ (lk) (es) (ck)) (.map 1) [((length L),(3,true))])∧
 (bif u
 then (bif !d
 then (bif decide (c>(0:Int))
 then (aM prog (λ_=>.none) 0 (uu n (.map 1) (.map ⟨false,[(.int .i64)]⟩ (lk) (es) (ck)) (.map 1) i a c u d i a c u d i a c u d [((length L),(3,true))]) (.call ⟨(.builtin .append),#[(.tmp 32),(.tmp 35)],#[22,22]⟩) [(32,(gz L (length L))),(35,(.vec 3 [[(.val (.int .i64 (i))),(.val (.int .u32 (a))),(.val (.int .i64 (c)))]] .full))] (gz (L++ [gA i a c]) (length L+(1:Nat))) (uu n (.map 1) (.map ⟨false,[(.int .i64)]⟩ (lk) (es) (ck)) (.map 1) i a c u d i a c u d i a c u d [((length L+(1:Nat)),(3,true))])∧
 Q .normal (EX (.fn (.func 50) [] []) (L++ [gA i a c]) (length L+(1:Nat)) ids (↑(length ids):Int) (wrap i64 ((↑j:Int)+(1:Int)))) (uu n (.map 1) (.map ⟨false,[(.int .i64)]⟩ (lk) (es) (ck)) (.map 1) i a c u d i a c u d i a c u d [((length L+(1:Nat)),(3,true))]) [] 39)
 else Q .normal (E4 L ids j) (uu n (.map 1) (.map ⟨false,[(.int .i64)]⟩ (lk) (es) (ck)) (.map 1) i a c u d i a c u d i a c u d [((length L),(3,true))]) [] 39)
 else Q .normal (E4 L ids j) (uu n (.map 1) (.map ⟨false,[(.int .i64)]⟩ (lk) (es) (ck)) (.map 1) i a c u d i a c u d i a c u d [((length L),(3,true))]) [] 39)
 else Q .normal (E4 L ids j) (uu n (.map 1) (.map ⟨false,[(.int .i64)]⟩ (lk) (es) (ck)) (.map 1) i a c u d i a c u d i a c u d [((length L),(3,true))]) [] 39)))
 else Q (.exit 0) (EX (.fn (.func 50) [] []) L (length L) ids (↑(length ids):Int) (↑j:Int)) (uw n (.map 1) (.map ⟨false,[(.int .i64)]⟩ (lk) (es) (ck)) (.map 1) [((length L),(3,true))]) [] 39):=by kernel_rfl
theorem KO (n:Int)(lk:Value→Option TV)(es:Es)(ck:Nat)(S:List (List TV))(Q:TV→VT→Prop):aH prog ae (az [(qZ,LF n lk es ck S)]) bx 300 bo 0 CW [.ptr 0 0] (pT n lk es ck) Q=
 (((@Eq (Nat) 0 0)∧
 ((@Eq (List TV) [dZ,(.fn (.func 50) [] [])] [dZ,(.fn (.func 50) [] [])])∧
 (@Eq (VT) (iq n (.map 1) (.map ⟨false,[(.int .i64)]⟩ (lk) (es) (ck))) (iq n (.map 1) (.map ⟨false,[(.int .i64)]⟩ (lk) (es) (ck))))))∧
 Q (c9 S) (iq n (.map 1) (.map ⟨false,[(.int .i64)]⟩ (lk) (es) (ck)))):=by kernel_rfl
end
section
open Go.RowKit Go.Maps Go.Sort
abbrev cP:=Int→Option (Int × Int)
def CZ (r:Int × Int):TV:=.agg (Ij r.1 r.2)
structure RepsOk (lk:Value→Option TV) (es:List (Value × TV × Nat)) (R:cP):Prop where
 get:∀z,lk (aC z)=(R z).map CZ
 sh:∀k v,lk k=some v→∃r,v=CZ r
 ents:∀e∈es,∃r,e.2.1=CZ r
theorem RepsOk.ren {lk:Value→Option TV}{es:List (Value × TV × Nat)}{R:cP}(h:RepsOk lk es R)(ck:Nat)(f g:Nat→Option Nat):VO.ren f g (.map kI lk es ck)=.map kI lk es ck:=by
 have h1:(λk=>(lk k).map (TV.ren f g))=lk:=by
  funext k
  cases hk:lk k with
  |none=>rfl
  |some v=>
   obtain ⟨r,rfl⟩:=h.sh k v hk
   rfl
 have h2:es.map (λe=>(e.1,e.2.1.ren f g,e.2.2))=es:=by
  refine (map_congr_left λe he=> ?_).trans (map_id es)
  obtain ⟨r,hr⟩:=h.ents e he
  obtain ⟨k,v,b⟩:=e
  simp only at hr
  subst hr
  rfl
 simp only [VO.ren,h1,h2]
def j5 (i:Int)(r:Int × Int)(R:cP):cP:=λz=>bif i==z then some r else R z
theorem ye {k:Value}{v:TV}{ck:Nat}:∀{es:List (Value × TV × Nat)} {e},e∈bt k v ck es→e.2.1=v∨e∈es
 |[],e,h=>by rw [mem_singleton.1 h];exact .inl rfl
 |x::es,e,h=>by
  unfold bt at h
  cases hc:am k x.1
  ·rw [hc,cond_false] at h
   rcases mem_cons.1 h with rfl | h
   ·exact .inr mem_cons_self
   ·rcases ye h with h | h
    ·exact .inl h
    ·exact .inr (mem_cons_of_mem _ h)
  ·rw [hc,cond_true] at h
   rcases mem_cons.1 h with rfl | h
   ·exact .inl rfl
   ·exact .inr (mem_cons_of_mem _ h)
theorem RepsOk.put {lk:Value→Option TV}{es:List (Value × TV × Nat)}{R:cP}(h:RepsOk lk es R)(i:Int)(r:Int × Int)(ck:Nat):
  RepsOk (λk=>bif am (aC i) k then some (CZ r) else lk k) (bt (aC i) (CZ r) ck es) (j5 i r R) where
 get:=λz=>by
  simp only [Mf,h.get,j5]
  cases i==z<;>rfl
 sh:=λk v hv=>by
  cases hc:am (aC i) k
  ·rw [hc,cond_false] at hv;exact h.sh k v hv
  ·rw [hc,cond_true] at hv;exact ⟨r,(Option.some.inj hv).symm⟩
 ents:=λe he=>by
  rcases ye he with he | he
  ·exact ⟨r,he⟩
  ·exact h.ents e he
theorem E5 {T:VT}{lk:Value→Option TV}{es:List (Value × TV × Nat)}{ck id:Nat}{z:Int}(hid:T.objs[id]?=some (.map kI lk es ck))(ok:Bool):cV prog T 124 (.map id) (.val (aC z)) ok=some (cg ok (lk (aC z)) (.agg #[.int .i64 0,.int .i64 0])):=by
 have h:∀o:Option VO,o=some (.map kI lk es ck)→(match prog.underlying 124,bM (.val (aC z)) with
   |some (.map kt et),some kv=>match cf prog kt,prog.info? et with
    |some sh,some i=>match i.zero with
     |some zz=>bif sh.fits kv then (match o with
       |some (.map sh' look _ _)=>bif gW sh sh' then some (cg ok (look kv) zz) else none
       |_=>none) else none
     |none=>none
    |_,_=>none
   |_,_=>none)=some (cg ok (lk (aC z)) (.agg #[.int .i64 0,.int .i64 0])):=by
  rintro _ rfl
  kernel_rfl
 exact h _ hid
def ll (R:cP)(i n:Int):Int:=match R i with
 |none=>0
 |some r=>bif decide (n≥r.2) then 0 else r.1
theorem It {lk lk2:Value→Option TV}{es es2:List (Value × TV × Nat)}{ck ck2:Nat}{S:List aN}{st:List Nat}{R:cP}(h:SitesOk lk es ck S st)(h2:RepsOk lk2 es2 R)(i n:Int):
  VCx prog ae 0 FP [.ptr 0 0,.val (.int .i64 i),.val (.int .i64 n)] (sT lk lk2 es es2 ck ck2) λx T'=>x=.val (.int .i64 (ll R i n))∧T'=sT lk lk2 es es2 ck ck2:=by
 have e1:=h.ren (ai 3) (ai 0)
 have e2:=h2.ren ck2 (ai 3) (ai 0)
 unfold kI at e1 e2
 have hl:=h2.get i
 have hlk:=λo=>E5 (T:=sT lk lk2 es es2 ck ck2) (id:=2) (z:=i) (lk:=lk2) (es:=es2) (ck:=ck2) rfl o
 unfold sT kI at hlk
 cases hR:R i with
 |none=>
  rw [hR] at hl
  refine VCx.keepQ 3 0 (le_refl _) (le_refl _) (ap ah ag aw ak (FR lk lk2 es es2 ck ck2 i n 0 0 false _) ?_)
  refine ⟨dH ((hlk true).trans (by rw [hl];rfl)),aZ rfl ⟨?_,?_⟩⟩
  ·simp only [TV.ren,ll,hR]
  ·simp only [VT.keep,take_succ_cons,take_zero,map_cons,map_nil,e1,e2,sT,kI]
   rfl
 |some r=>
  rw [hR] at hl
  refine VCx.keepQ 3 0 (le_refl _) (le_refl _) (ap ah ag aw ak (FR lk lk2 es es2 ck ck2 i n r.1 r.2 true _) ?_)
  refine ⟨dH ((hlk true).trans (by rw [hl];rfl)),aA rfl ?_⟩
  cases hc:decide (n≥r.2)
  ·refine aA rfl ⟨?_,?_⟩
   ·simp only [TV.ren,ll,hR,hc,cond_false]
   ·simp only [VT.keep,take_succ_cons,take_zero,map_cons,map_nil,e1,e2,sT,kI]
    rfl
  ·refine aZ rfl ⟨?_,?_⟩
   ·simp only [TV.ren,ll,hR,hc,cond_true]
   ·simp only [VT.keep,take_succ_cons,take_zero,map_cons,map_nil,e1,e2,sT,kI]
    rfl
end
section
open Go.RowKit Go.Maps Go.Sort
def tq (S:List aN)(R:cP)(T:VT):Prop:=∃lk lk2 es es2 ck ck2 st,T=sT lk lk2 es es2 ck ck2∧SitesOk lk es ck S st∧RepsOk lk2 es2 R
def eQ (S:List aN)(i:Int):Bool:=(S.find? λs=>s.1==i).isSome
theorem qw {lk lk2:Value→Option TV}{es es2:List (Value × TV × Nat)}{ck ck2:Nat}{S:List aN}{st:List Nat}{R:cP}(h:SitesOk lk es ck S st)(h2:RepsOk lk2 es2 R)(l:List VO):
  VT.keep ⟨.cells [.map 1,.map 2]:: .map kI lk es ck:: .map kI lk2 es2 ck2::l,[]⟩ 3 0=sT lk lk2 es es2 ck ck2:=by
 have e1:=h.ren (ai 3) (ai 0)
 have e2:=h2.ren ck2 (ai 3) (ai 0)
 simp only [VT.keep,take_succ_cons,take_zero,map_cons,map_nil,e1,e2,sT]
 rfl
def ew (S:List aN)(i:Int):aN:=(S.find? λs=>s.1==i).getD (0,0,0)
theorem yf {lk:Value→Option TV}{es:List (Value × TV × Nat)}{ck:Nat}{S:List aN}{st:List Nat}(h:SitesOk lk es ck S st)(i:Int):
  cg true (lk (aC i)) (.agg #[.int .i64 0,.int .u32 0,.int .i64 0])=.tup [.agg (dd (ew S i).1 (ew S i).2.1 (ew S i).2.2),.val (.bool (eQ S i))]:=by
 rw [h.at,ew,eQ]
 cases S.find? λs=>s.1==i<;>rfl
def hP (S:List aN)(i c u:Int):Int:=bif !eQ S i then 7 else bif decide (0≤c∧c≤1000000∧0≤u∧u≤1099511627776) then 0 else 2
def lm (S:List aN)(R:cP)(i c u:Int):cP:=bif hP S i c u==0 then j5 i (c,u) R else R
theorem Iu {S:List aN}{R:cP}{T:VT}(h:tq S R T)(i c u:Int):
  VCx prog ae 0 CO [.ptr 0 0,.val (.int .i64 i),.val (.int .i64 c),.val (.int .i64 u)] T λx T'=>x=.val (.int .i64 (hP S i c u))∧tq S (lm S R i c u) T':=by
 obtain ⟨lk,lk2,es,es2,ck,ck2,st,rfl,h1,h2⟩:=h
 have hlk:=λo=>pw (T:=sT lk lk2 es es2 ck ck2) (id:=1) (z:=i) (lk:=lk) (es:=es) (ck:=ck) rfl o
 have g2:=h2.put i (c,u) ck2
 refine VCx.keepQ 3 0 (le_refl _) (le_refl _) (ap ah ag aw ak (Kx lk lk2 es es2 ck ck2 i c u (ew S i).1 (ew S i).2.1 (ew S i).2.2 (eQ S i) _) ?_)
 refine ⟨dH ((hlk true).trans (by rw [yf h1];rfl)),?_⟩
 have same:∀l,∃lk' lk2' es' es2' ck' ck2' st',VT.keep ⟨.cells [.map 1,.map 2]:: .map kI lk es ck:: .map kI lk2 es2 ck2::l,[]⟩ 3 0=sT lk' lk2' es' es2' ck' ck2'∧SitesOk lk' es' ck' S st'∧RepsOk lk2' es2' R:=λl=>⟨_,_,_,_,_,_,_,qw h1 h2 l,h1,h2⟩
 cases hb:eQ S i
 ·have ha:hP S i c u=7:=by simp [hP,hb]
  have hr:lm S R i c u=R:=by simp [lm,ha]
  rw [ha,hr]
  exact aZ rfl ⟨rfl,same _⟩
 ·refine aA rfl ?_
  by_cases hc:0≤c∧c≤1000000∧0≤u∧u≤1099511627776
  ·have ha:hP S i c u=0:=by simp [hP,hb,hc]
   have hr:lm S R i c u=j5 i (c,u) R:=by simp [lm,ha]
   rw [ha,hr]
   obtain ⟨c1,c2,c3,c4⟩:=hc
   refine aZ (by simpa using c1) (aA (by simpa using c2) (aZ (by simpa using c3) (aA (by simpa using c4) ⟨rfl,_,_,_,_,_,_,_,qw h1 g2 _,h1,g2⟩)))
  ·have ha:hP S i c u=2:=by simp only [hP,hb,Bool.not_true,cond_false,decide_eq_false hc]
   have hr:lm S R i c u=R:=by simp [lm,ha]
   rw [ha,hr]
   by_cases c1:0≤c
   ·refine aZ (by simpa using c1) ?_
    by_cases c2:c≤1000000
    ·refine aA (by simpa using c2) ?_
     by_cases c3:0≤u
     ·refine aZ (by simpa using c3) ?_
      by_cases c4:u≤1099511627776
      ·exact absurd ⟨c1,c2,c3,c4⟩ hc
      ·exact aZ (by simpa using c4) ⟨rfl,same _⟩
     ·exact aA (by simpa using c3) ⟨rfl,same _⟩
    ·exact aZ (by simpa using c2) ⟨rfl,same _⟩
   ·exact aA (by simpa using c1) ⟨rfl,same _⟩
end
section
open Go.RowKit Go.Maps Go.Sort
theorem q9 (q:IntKind)(x y:Int):bN eql (am (.int q x) (.int q y))=decide (x=y):=by
 show (x==y)=decide (x=y)
 cases h:x==y
 ·exact (decide_eq_false (by simpa using h)).symm
 ·exact (decide_eq_true (by simpa using h)).symm
def fJ (S:List aN)(t:aN):Int:=bif !decide (0≤t.1∧t.1≤255∧t.2.1≠0∧0≤t.2.2∧t.2.2≤1000000) then 2 else bif eQ S t.1 then 13 else bif decide (8≤S.length) then 6 else 0
def jO (S:List aN)(t:aN):List aN:=bif fJ S t==0 then S++ [t] else S
theorem Iw {S:List aN}{R:cP}{T:VT}(h:tq S R T)(t:aN):
  VCx prog ae 0 CN [.ptr 0 0,iH t] T λx T'=>x=.val (.int .i64 (fJ S t))∧tq (jO S t) R T':=by
 obtain ⟨lk,lk2,es,es2,ck,ck2,st,rfl,h1,h2⟩:=h
 obtain ⟨i,a,c⟩:=t
 have hlen:=h1.len
 refine VCx.keepQ 3 0 (le_refl _) (le_refl _) (ap ah ag aw ak (Kw lk lk2 es es2 ck ck2 i a c (ew S i).1 (ew S i).2.1 (ew S i).2.2 (eQ S i) _) ?_)
 refine ⟨⟨(pw rfl true).trans (by rw [yf h1];rfl)⟩,?_⟩
 have same:∀l,∃lk' lk2' es' es2' ck' ck2' st',VT.keep ⟨.cells [.map 1,.map 2]:: .map kI lk es ck:: .map kI lk2 es2 ck2::l,[]⟩ 3 0=sT lk' lk2' es' es2' ck' ck2'∧SitesOk lk' es' ck' S st'∧RepsOk lk2' es2' R:=λl=>⟨_,_,_,_,_,_,_,qw h1 h2 l,h1,h2⟩
 by_cases hc:0≤i∧i≤255∧a≠0∧0≤c∧c≤1000000
 ·have hc':=hc
  obtain ⟨c1,c2,c3,c4,c5⟩:=hc
  refine aZ (by simpa using c1) (aA (by simpa using c2) (aA (by rw [q9];simpa using c3) (aZ (by simpa using c4) (aA (by simpa using c5) ?_))))
  cases hb:eQ S i
  ·refine aA rfl ?_
   by_cases h8:8≤S.length
   ·have ha:fJ S (i,a,c)=6:=by simp only [fJ,hb,decide_eq_true hc',decide_eq_true h8,Bool.not_true,cond_false,cond_true]
    have hr:jO S (i,a,c)=S:=by simp [jO,ha]
    rw [ha,hr]
    exact aZ (decide_eq_true (by omega)) ⟨rfl,same _⟩
   ·have ha:fJ S (i,a,c)=0:=by simp only [fJ,hb,decide_eq_true hc',decide_eq_false h8,Bool.not_true,cond_false]
    have hr:jO S (i,a,c)=S++ [(i,a,c)]:=by simp [jO,ha]
    have hn:S.find? (λs=>s.1==i)=none:=by
     unfold eQ at hb
     cases hf:S.find? λs=>s.1==i with
     |none=>rfl
     |some s=>rw [hf] at hb;cases hb
    have hl:lk (Value.int i64 i)=none:=(h1.at i).trans (by rw [hn];rfl)
    have g1:=h1.put (i,a,c) hn ⟨c1,by simp only;omega⟩ (by omega)
    rw [ha,hr]
    refine aA (decide_eq_false (by omega)) ?_
    rw [hl]
    exact ⟨rfl,_,_,_,_,_,_,_,qw g1 h2 _,g1,h2⟩
  ·have ha:fJ S (i,a,c)=13:=by simp only [fJ,hb,decide_eq_true hc',Bool.not_true,cond_false,cond_true]
   have hr:jO S (i,a,c)=S:=by simp [jO,ha]
   rw [ha,hr]
   exact aZ rfl ⟨rfl,same _⟩
 ·have ha:fJ S (i,a,c)=2:=by simp only [fJ,decide_eq_false hc,Bool.not_false,cond_true]
  have hr:jO S (i,a,c)=S:=by simp [jO,ha]
  rw [ha,hr]
  by_cases c1:0≤i
  ·refine aZ (by simpa using c1) ?_
   by_cases c2:i≤255
   ·refine aA (by simpa using c2) ?_
    by_cases c3:a=0
    ·exact aZ (by rw [q9];simpa using c3) ⟨rfl,same _⟩
    ·refine aA (by rw [q9];simpa using c3) ?_
     by_cases c4:0≤c
     ·refine aZ (by simpa using c4) ?_
      by_cases c5:c≤1000000
      ·exact absurd ⟨c1,c2,c3,c4,c5⟩ hc
      ·exact aZ (by simpa using c5) ⟨rfl,same _⟩
     ·exact aA (by simpa using c4) ⟨rfl,same _⟩
   ·exact aZ (by simpa using c2) ⟨rfl,same _⟩
  ·exact aA (by simpa using c1) ⟨rfl,same _⟩
end
section
open Go.RowKit Go.Maps Go.Sort
theorem Ha (m:Mb)(f g:Nat→Option Nat):(mh m).ren f g=mh m:=rfl
structure PoOk (lk:Value→Option TV) (es:Es) (ck:Nat) (S:List Mb) (st:List Nat):Prop where
 m:MpOk aS mh lk es ck S st
 ok:KB S
def bq (S:List Mb)(z:Int):Mb:=(dB aS S z).getD FS
def hZ (S:List Mb)(z:Int):Bool:=(dB aS S z).isSome
theorem fA {α:Type}{l:List α}{i:Nat}{x:α}(h:l[i]?=some x):l.set i x=l:=by
 apply List.ext_getElem?
 intro j
 rw [getElem?_set]
 split
 ·rename_i hj;subst hj
  rw [if_pos (List.getElem?_eq_some_iff.1 h).1,h]
 ·rfl
section
variable {n:Int}{lk:Value→Option TV}{es:Es}{ck:Nat}{S:List Mb}{st:List Nat}
theorem PoOk.ren (h:PoOk lk es ck S st)(f g:Nat→Option Nat):VO.ren f g (.map kI lk es ck)=.map kI lk es ck:=h.m.ren Ha f g kI ck
theorem ey (h:PoOk lk es ck S st)(l:List VO)(tl:List (Nat × Nat × Bool)):VT.keep ⟨pO n:: .map kI lk es ck::l,tl⟩ 2 0=pT n lk es ck:=by
 have e:=h.ren (ai 2) (ai 0)
 simp only [VT.keep,take_succ_cons,take_zero,map_cons,map_nil,e,pT]
 rfl
theorem iu (h:PoOk lk es ck S st)(v:Value)(l:List VO)(tl:List (Nat × Nat × Bool)):VT.keep ⟨pO n:: .map kI lk es ck:: .cells [.val v]::l,tl⟩ 3 0=yb n lk es ck (.val v):=by
 have e:=h.ren (ai 3) (ai 0)
 simp only [VT.keep,take_succ_cons,take_zero,map_cons,map_nil,e,yb]
 rfl
theorem BC (h:PoOk lk es ck S st){T:VT}{i j:Nat}(hi:T.objs[i]?=some (.cells [.val (.int .i64 n),.map j]))(hj:T.objs[j]?=some (.map kI lk es ck)){f:FuncId}{xs ys:List TV}(hy:av (aj [i,j]) (aj []) ys=xs)
  {R:TV→(Value→Option TV)→Es→Nat→Prop} (hR:∀x a b c,R x a b c→∀f g,x.ren f g=x)
  (hv:VCx prog ae 0 f xs (pT n lk es ck) λx T'=>∃lk' es' ck',T'=pT n lk' es' ck'∧(∃S' st',PoOk lk' es' ck' S' st')∧R x lk' es' ck'):
  VCx prog ae 0 f ys T λx T'=>∃lk' es' ck',R x lk' es' ck'∧T'={T with objs:=T.objs.set j (.map kI lk' es' ck')}:=by
 have hij:i≠j:=λe=>by rw [e,hj] at hi;cases hi
 have q1:=h.ren (aj [i,j]) (aj [])
 have hg:T.give [i,j] []=pT n lk es ck:=by
  have h1:aj [i,j] j=some 1:=by
   have hb:(i==j)=false:=by rw [beq_eq_false_iff_ne];exact hij
   simp [aj,List.idxOf?,List.findIdx?_cons,hb]
  have e0:VO.ren (aj [i,j]) (aj []) (.cells [.val (.int .i64 n),.map j])=pO n:=by simp only [VO.ren,av,TV.ren,h1,pO]
  simp only [VT.give,map_cons,map_nil,hi,hj,Option.getD_some,q1,e0,pT]
 refine (VCx.lift (xs:=xs) [i,j] [] bg (by simp [hij]) nodup_nil (λk hk=> ?_) (by simp) (λ_ _=>zero_le _) hy (by rw [hg];exact hv) (λx T' hq=> ?_)).mono ?_
 ·simp only [mem_cons,List.not_mem_nil,or_false] at hk
  rcases hk with rfl | rfl
  ·exact ⟨_,hi,rfl⟩
  ·exact ⟨_,hj,rfl⟩
 ·obtain ⟨_,_,_,rfl,_⟩:=hq;exact ⟨le_refl 2,zero_le _⟩
 ·rintro x T' ⟨y,T2,⟨a,b,c,rfl,⟨S',st',h'⟩,hr⟩,rfl,rfl⟩
  refine ⟨a,b,c,by rw [hR _ _ _ _ hr];exact hr,?_⟩
  have r1:=h'.ren (an T.objs.length [i,j]) (an T.tails.length [])
  have e1:VO.ren (an T.objs.length [i,j]) (an T.tails.length []) (pO n)=.cells [.val (.int .i64 n),.map j]:=by simp [pO,VO.ren,av,TV.ren,an]
  simp only [VT.back,pT,map_cons,map_nil,r1,e1,aT]
  rw [fA hi]
  simp [aT]
theorem kL {T:VT}{id:Nat}{z:Int}(hid:T.objs[id]?=some (.map kI lk es ck))(ok:Bool):cV prog T 108 (.map id) (.val (aC z)) ok=some (cg ok (lk (aC z)) (.agg #[.int .i64 0,.int .u32 0,.int .i64 0,.bool false,.bool false])):=by
 have h:∀o:Option VO,o=some (.map kI lk es ck)→(match prog.underlying 108,bM (.val (aC z)) with
   |some (.map kt et),some kv=>match cf prog kt,prog.info? et with
    |some sh,some i=>match i.zero with
     |some zz=>bif sh.fits kv then (match o with
       |some (.map sh' look _ _)=>bif gW sh sh' then some (cg ok (look kv) zz) else none
       |_=>none) else none
     |none=>none
    |_,_=>none
   |_,_=>none)=some (cg ok (lk (aC z)) (.agg #[.int .i64 0,.int .u32 0,.int .i64 0,.bool false,.bool false])):=by
  rintro _ rfl
  kernel_rfl
 exact h _ hid
theorem jP (h:PoOk lk es ck S st)(z:Int):
  cg true (lk (aC z)) (.agg #[.int .i64 0,.int .u32 0,.int .i64 0,.bool false,.bool false])=.tup [.agg (eH (bq S z).1.1 (bq S z).1.2.1 (bq S z).1.2.2 (bq S z).2.1 (bq S z).2.2),.val (.bool (hZ S z))]:=by
 rw [h.m.at,bq,hZ]
 unfold dB
 cases S.find? λs=>aS s==z<;>rfl
def vL (n:Int)(lk:Value→Option TV)(es:Es)(ck:Nat)(x0:TV):TV→VT→Prop:=λx T'=>x=x0∧T'=pT n lk es ck
theorem C0 (h:PoOk lk es ck S st){i j:Nat}{f:FuncId}{xs ys0:List TV}{x0:TV}(hy:av (aj [i,j]) (aj []) ys0=xs)(hx:∀f g,x0.ren f g=x0)(hv:VCx prog ae 0 f xs (pT n lk es ck) (vL n lk es ck x0)):
  ∀ro ys T K,LB i j n lk es ck ys0 x0 ro ys T K→VCx prog ae ro f ys T K:=by
 rintro ro ys T K ⟨⟨rfl,rfl,hi,hj⟩,hk⟩
 refine (BC h hi hj hy (R:=λx a b c=>x=x0∧a=lk∧b=es∧c=ck) (λx a b c hr=>by rw [hr.1];exact hx) (hv.mono ?_)).mono ?_
 ·rintro x T' ⟨rfl,rfl⟩
  exact ⟨lk,es,ck,rfl,⟨S,st,h⟩,rfl,rfl,rfl,rfl⟩
 ·rintro x T' ⟨_,_,_,⟨rfl,rfl,rfl,rfl⟩,rfl⟩
  rw [fA hj];exact hk
theorem Ix (h:PoOk lk es ck S st)(z:Int):VCx prog ae 0 FT [.ptr 0 0,.val (.int .i64 z)] (pT n lk es ck) (vL n lk es ck (.tup [.agg (aF (bq S z)),.val (.bool (hZ S z))])):=by
 refine VCx.keepQ 2 0 (le_refl _) (le_refl _) (ap ah ag aw ak (KD n lk es ck z (bq S z).1.1 (bq S z).1.2.1 (bq S z).1.2.2 (bq S z).2.1 (bq S z).2.2 (hZ S z) _) ?_)
 exact ⟨dH ((kL rfl true).trans (by rw [jP h];rfl)),rfl,ey h _ _⟩
theorem Iy (h:PoOk lk es ck S st)(z:Int):aQ prog ae (az [(FT,LC n lk es ck z (eH (bq S z).1.1 (bq S z).1.2.1 (bq S z).1.2.2 (bq S z).2.1 (bq S z).2.2) (hZ S z))]):=aE λp hp=>by
 obtain rfl:=mem_singleton.1 hp
 exact C0 h rfl (λ_ _=>rfl) (Ix h z)
theorem Iz (h:PoOk lk es ck S st)(z:Int):VCx prog ae 0 CT [.ptr 0 0,.val (.int .i64 z)] (pT n lk es ck) (vL n lk es ck (.val (.bool (bq S z).2.1))):=by
 refine VCx.keepQ 2 0 (le_refl _) (le_refl _) (ap ah ag (Iy h z) ak (KK n lk es ck z _ _ _ _ _ _ _) ?_)
 exact ⟨⟨rfl,rfl,rfl,rfl⟩,rfl,ey h _ _⟩
def iI (S:List Mb)(z:Int)(f:Mb→Mb):List Mb:=match dB aS S z with
 |none=>S
 |some m=>fw aS (f m) S
def ra (q:Bool)(m:Mb):Mb:=(m.1,q,m.2.2)
def FV (q:Bool)(m:Mb):Mb:=(m.1,m.2.1,q)
def rc (q:Int)(m:Mb):Mb:=bif decide (0≤q∧q≤100) then ((m.1.1,m.1.2.1,q),m.2) else m
theorem PoOk.set (h:PoOk lk es ck S st)(t:Mb)(hn:∃s,S.find? (λs=>aS s==aS t)=some s)(ck2:Nat)(hc:ck≤ck2)(hw:0≤t.1.2.2∧t.1.2.2≤100):
  PoOk (λk=>bif am (aC (aS t)) k then some (mh t) else lk k) (bt (aC (aS t)) (mh t) ck es) ck2 (fw aS t S) st where
 m:=h.m.set t hn ck2 hc
 ok:={
  few:=by simp only [fw,length_map];exact h.ok.few
  nd:=by rw [py];exact h.ok.nd
  wt:=λm hm=>by
   obtain ⟨s,hs,rfl⟩:=mem_map.1 hm
   cases hb:aS s==aS t
   ·exact h.ok.wt s hs
   ·exact hw}
def zO (S:List Mb)(z:Int)(f:Mb→Mb):Int→(Value→Option TV)→Es→Nat→Prop:=λ_ a b c=>∃st',PoOk a b c (iI S z f) st'
theorem uI (h:PoOk lk es ck S st){z:Int}{f:Mb→Mb}(hb:hZ S z=false)(e:Int):zO S z f e lk es ck:=by
 have:iI S z f=S:=by
  unfold iI;unfold hZ at hb
  cases hf:dB aS S z with
  |none=>rfl
  |some m=>rw [hf] at hb;cases hb
 exact ⟨st,by rw [this];exact h⟩
theorem Hb (h:PoOk lk es ck S st){z:Int}{f:Mb→Mb}(hf:f (bq S z)=bq S z)(e:Int):zO S z f e lk es ck:=by
 have:iI S z f=S:=by
  unfold iI;unfold bq at hf
  cases hm:dB aS S z with
  |none=>rfl
  |some m=>
   rw [hm] at hf
   have hf':f m=m:=hf
   simp only [hf']
   unfold fw
   refine (map_congr_left λu hu=> ?_).trans (map_id S)
   cases hb:aS u==aS m
   ·rfl
   ·have h1:aS u=aS m:=by simpa using hb
    have h2:=mg h.ok.nd hu
    have h3:aS m=z:=by simpa using find?_some hm
    rw [h1,h3,hm] at h2
    exact Option.some.inj h2
 exact ⟨st,by rw [this];exact h⟩
theorem yg (h:PoOk lk es ck S st){z:Int}{f:Mb→Mb}(hb:hZ S z=true)(hk:aS (f (bq S z))=aS (bq S z))(hw:0≤(f (bq S z)).1.2.2∧(f (bq S z)).1.2.2≤100)(e:Int)(ck2:Nat)(hc:ck≤ck2):
  zO S z f e (λk=>bif am (aC z) k then some (mh (f (bq S z))) else lk k) (bt (aC z) (mh (f (bq S z))) ck es) ck2:=by
 unfold hZ at hb
 cases hm:dB aS S z with
 |none=>rw [hm] at hb;cases hb
 |some m=>
  have e1:bq S z=m:=by unfold bq;rw [hm];rfl
  have h3:aS m=z:=by simpa using find?_some hm
  rw [e1] at hk hw ⊢
  have e2:iI S z f=fw aS (f m) S:=by unfold iI;rw [hm]
  have h4:aS (f m)=z:=hk.trans h3
  have h5:=h.set (f m) ⟨m,by rw [h4];exact hm⟩ ck2 hc hw
  rw [h4] at h5
  exact ⟨st,by rw [e2];exact h5⟩
theorem zP {z:Int}(hb:hZ S z=true):bq S z∈S∧aS (bq S z)=z:=by
 unfold hZ at hb
 cases hm:dB aS S z with
 |none=>rw [hm] at hb;cases hb
 |some m=>
  have e1:bq S z=m:=by unfold bq;rw [hm];rfl
  rw [e1]
  exact ⟨List.mem_of_find?_eq_some hm,by simpa using find?_some hm⟩
theorem BD (o:Option TV):ck≤(match o with
 |some _=>ck
 |none=>ck+1):=by cases o<;>simp
theorem IA (h:PoOk lk es ck S st)(q:Bool)(z:Int):aQ prog ae (az [(tj,zN n lk es ck (.val (.bool q)) z E1 (zO S z (ra q)))]):=aE λp hp=>by
 obtain rfl:=mem_singleton.1 hp
 rintro ro ys T K ⟨⟨rfl,rfl,rfl⟩,hk⟩
 refine VCx.keepQ 3 0 (le_refl _) (le_refl _) (ap ah ag aw ak (KE n lk es ck q z (bq S z).1.1 (bq S z).1.2.1 (bq S z).1.2.2 (bq S z).2.1 (bq S z).2.2 (hZ S z) _) ?_)
 refine ⟨dH ((kL rfl true).trans (by rw [jP h];rfl)),aL (λhb=> ?_) (λhb=> ?_)⟩
 ·exact (congrArg (K _) (iu h _ _ _)).mpr (hk 7 lk es ck (uI h (by simpa using hb) 7))
 ·have hb':hZ S z=true:=by simpa using hb
  have hc:=yg h (f:=ra q) hb' rfl (h.ok.wt (bq S z) (zP hb').1) 0 _ (BD (lk (aC z)))
  obtain ⟨st',h'⟩:=hc
  exact (congrArg (K _) (iu h' _ _ _)).mpr (hk 0 _ _ _ ⟨st',h'⟩)
theorem IB (h:PoOk lk es ck S st)(q:Bool)(z:Int):aQ prog ae (az [(tj,zN n lk es ck (.val (.bool q)) z E2 (zO S z (FV q)))]):=aE λp hp=>by
 obtain rfl:=mem_singleton.1 hp
 rintro ro ys T K ⟨⟨rfl,rfl,rfl⟩,hk⟩
 refine VCx.keepQ 3 0 (le_refl _) (le_refl _) (ap ah ag aw ak (KF n lk es ck q z (bq S z).1.1 (bq S z).1.2.1 (bq S z).1.2.2 (bq S z).2.1 (bq S z).2.2 (hZ S z) _) ?_)
 refine ⟨dH ((kL rfl true).trans (by rw [jP h];rfl)),aL (λhb=> ?_) (λhb=> ?_)⟩
 ·exact (congrArg (K _) (iu h _ _ _)).mpr (hk 7 lk es ck (uI h (by simpa using hb) 7))
 ·have hb':hZ S z=true:=by simpa using hb
  have hc:=yg h (f:=FV q) hb' rfl (h.ok.wt (bq S z) (zP hb').1) 0 _ (BD (lk (aC z)))
  obtain ⟨st',h'⟩:=hc
  exact (congrArg (K _) (iu h' _ _ _)).mpr (hk 0 _ _ _ ⟨st',h'⟩)
theorem IC (h:PoOk lk es ck S st)(q z:Int):aQ prog ae (az [(tj,zN n lk es ck (.val (.int .i64 q)) z E3 (zO S z (rc q)))]):=aE λp hp=>by
 obtain rfl:=mem_singleton.1 hp
 rintro ro ys T K ⟨⟨rfl,rfl,rfl⟩,hk⟩
 refine VCx.keepQ 3 0 (le_refl _) (le_refl _) (ap ah ag aw ak (KG n lk es ck q z (bq S z).1.1 (bq S z).1.2.1 (bq S z).1.2.2 (bq S z).2.1 (bq S z).2.2 (hZ S z) _) ?_)
 have off:¬(0≤q∧q≤100)→∀e l tl,K (.val (.int .i64 e)) (VT.keep ⟨pO n:: .map kI lk es ck:: .cells [.val (.int .i64 q)]::l,tl⟩ 3 0):=λhq e l tl=>
  (congrArg (K _) (iu h _ _ _)).mpr (hk e lk es ck (Hb h (by simp only [rc,decide_eq_false hq,cond_false]) e))
 refine ⟨dH ((kL rfl true).trans (by rw [jP h];rfl)),aL (λhb=> ?_) (λhb=>aL (λh0=>aL (λh1=> ?_) (λh1=> ?_)) (λh0=> ?_))⟩
 ·exact (congrArg (K _) (iu h _ _ _)).mpr (hk 7 lk es ck (uI h (by simpa using hb) 7))
 ·exact off (λhq=>by simp at h1;omega) 2 _ _
 ·have hb':hZ S z=true:=by simpa using hb
  have hq:0≤q∧q≤100:=by simp at h0 h1;exact ⟨h0,h1⟩
  have ef:rc q (bq S z)=(((bq S z).1.1,(bq S z).1.2.1,q),(bq S z).2):=by simp only [rc,decide_eq_true hq,cond_true]
  have hc:=yg h (f:=rc q) hb' (by rw [ef];rfl) (by rw [ef];exact hq) 0 _ (BD (lk (aC z)))
  rw [ef] at hc
  obtain ⟨st',h'⟩:=hc
  exact (congrArg (K _) (iu h' _ _ _)).mpr (hk 0 _ _ _ ⟨st',h'⟩)
 ·exact off (λhq=>by simp at h0;omega) 2 _ _
def vM (n:Int)(S':List Mb):TV→VT→Prop:=λx T'=>∃e lk' es' ck' st',x=.val (.int .i64 e)∧T'=pT n lk' es' ck'∧PoOk lk' es' ck' S' st'
theorem C1 (h:PoOk lk es ck S st)(q:Bool)(z:Int):VCx prog ae 0 tp [.ptr 0 0,.val (.int .i64 z),.val (.bool q)] (pT n lk es ck) (vM n (iI S z (ra q))):=by
 refine VCx.keepQ 2 0 (le_refl _) (le_refl _) (ap ah ag (IA h q z) ak (KH n lk es ck q z _ _) ?_)
 exact ⟨⟨rfl,rfl,rfl⟩,λe a b c ⟨st',h'⟩=>⟨e,a,b,c,st',rfl,ey h' _ _,h'⟩⟩
theorem C2 (h:PoOk lk es ck S st)(q:Bool)(z:Int):VCx prog ae 0 x9 [.ptr 0 0,.val (.int .i64 z),.val (.bool q)] (pT n lk es ck) (vM n (iI S z (FV q))):=by
 refine VCx.keepQ 2 0 (le_refl _) (le_refl _) (ap ah ag (IB h q z) ak (KI n lk es ck q z _ _) ?_)
 exact ⟨⟨rfl,rfl,rfl⟩,λe a b c ⟨st',h'⟩=>⟨e,a,b,c,st',rfl,ey h' _ _,h'⟩⟩
theorem ID (h:PoOk lk es ck S st)(q z:Int):VCx prog ae 0 CU [.ptr 0 0,.val (.int .i64 z),.val (.int .i64 q)] (pT n lk es ck) (vM n (iI S z (rc q))):=by
 refine VCx.keepQ 2 0 (le_refl _) (le_refl _) (ap ah ag (IC h q z) ak (KJ n lk es ck q z _ _) ?_)
 exact ⟨⟨rfl,rfl,rfl⟩,λe a b c ⟨st',h'⟩=>⟨e,a,b,c,st',rfl,ey h' _ _,h'⟩⟩
theorem PoOk.put (h:PoOk lk es ck S st)(b:Bk)(hn:hZ S b.1=false)(hi:0≤b.1∧b.1<256)(hw:0≤b.2.2∧b.2.2≤100)(hl:S.length<16):
  PoOk (λk=>bif am (aC b.1) k then some (mh (b,false,false)) else lk k) (bt (aC b.1) (mh (b,false,false)) ck es) (ck+1) (S++ [(b,false,false)]) (st++ [ck]):=by
 have hn':S.find? (λs=>aS s==aS (b,false,false))=none:=by
  unfold hZ dB at hn
  show S.find? (λs=>aS s==b.1)=none
  cases hf:S.find? λs=>aS s==b.1 with
  |none=>rfl
  |some s=>rw [hf] at hn;cases hn
 have hm:=h.m.put (b,false,false) hn' hi
 exact {
  m:=hm
  ok:={
   few:=by simp;omega
   nd:=hm.nd
   wt:=λm hm=>by
    rcases mem_append.1 hm with hm | hm
    ·exact h.ok.wt m hm
    ·rw [mem_singleton.1 hm];exact hw}}
theorem IE (h:PoOk lk es ck S st)(b:Bk):VCx prog ae 0 CS [.ptr 0 0,.agg (bd b)] (pT n lk es ck) λx T'=>∃S',vM n S' x T':=by
 obtain ⟨i,a,c⟩:=b
 refine VCx.keepQ 2 0 (le_refl _) (le_refl _) (ap ah ag aw ak (KC n lk es ck i a c (bq S i).1.1 (bq S i).1.2.1 (bq S i).1.2.2 (bq S i).2.1 (bq S i).2.2 (hZ S i) _) ?_)
 have same:∀e l tl,∃S',vM n S' (.val (.int .i64 e)) (VT.keep ⟨pO n:: .map kI lk es ck::l,tl⟩ 2 0):=λe l tl=>⟨S,e,lk,es,ck,st,rfl,ey h _ _,h⟩
 refine aL (λ_=>same _ _ _) λh1=>aL (λ_=>same _ _ _) λh2=>aL (λ_=>same _ _ _) λh3=>aL (λh4=>aL (λ_=>same _ _ _) λh5=> ?_) λ_=>same _ _ _
 refine ⟨⟨(kL rfl true).trans (by rw [jP h];rfl)⟩,aL (λ_=>same _ _ _) λhb=>aL (λ_=>same _ _ _) λh6=> ?_⟩
 simp at h1 h2 h4 h5 h6
 have hlen:=h.m.len
 have hl:lk (Value.int i64 i)=none:=by
  refine (h.m.at i).trans ?_
  unfold hZ dB at hb
  cases hf:S.find? λs=>aS s==i with
  |none=>rfl
  |some s=>rw [hf] at hb;cases hb
 have hp:=h.put (i,a,c) hb ⟨h1,by simp only;omega⟩ ⟨h4,h5⟩ (by omega)
 rw [hl]
 exact ⟨_,0,_,_,_,_,rfl,ey hp _ _,hp⟩
end
end
end Go.Proofs.YtgboehkdijjnkaaGreatDoor