/-Part 4 of the proof of viewPiecesCard_holds:Vfin,Vlp,Mem ... No condition. -/
import Derived.Sort.LoopGhostIn
import Derived.RangeFuncNested
import Derived.Laws.CopyOwn
import Derived.Laws.OwnMore
import Derived.Laws.MakeOwn
import Derived.Deep.AppendLies
import Derived.ProofKit
import Derived.OpenShut
import Derived.Lib.SmallJoins
import Derived.Test.YtaijldpbpimdlaaGreatDoorVz1
import Derived.Test.YtaijldpbpimdlaaGreatDoorVz2
import Derived.Test.YtaijldpbpimdlaaGreatDoorVz3
set_option maxRecDepth 100000
namespace Go.Proofs.YtaijldpbpimdlaaGreatDoor
open Go.RowKit
open _root_.Array (getElem?_push replicate size_push)
open Go.BinOp (eql neq)
open _root_.BitVec (ofInt toNat)
open _root_.Bool (and_eq_true)
open Go.Calls (mono)
open Go.Frame (atR)
open _root_.Int (tdiv)
open Go.IntKind (i64 signed u32 u64 wrap)
open _root_.List (drop foldl_cons getElem?_eq_getElem getElem?_map getElem?_set length length_cons length_drop length_map length_nil length_take map_cons map_nil mem_cons mem_cons_of_mem mem_cons_self mem_singleton nodup_nil take_length)
open _root_.Nat (beq beq_refl ble ble_eq_true_of_le eq_of_beq_eq_true le_of_ble_eq_true le_refl le_trans min_le_right not_lt_zero zero_add zero_le)
open _root_.Option (getD_some map_eq_some_iff)
open Go.Region (wanted)
open Go.Proofs.Tryz (prog underlying22)
open Go.World (alloc_heap_new putObj_size)
section
variable {P:Program}{G:aP}{F:gD}
theorem Fix.of_min {ro:Nat}{g:Gh}{T T':VT}{w w':World}(h:Fix (min ro T.objs.length) g T w T' w'):Fix ro g T w T' w':=
 ⟨h.len,λi hi hl=>h.same i (by omega) hl,λi o b hi ho=>h.heap i o b (by have:=(List.getElem?_eq_some_iff.1 ho).1;omega) ho⟩
theorem Ca {ops:Array Oper}{p:List (Oper × PK)}(h:yO P ops=some p):lH P ops=some p:=by
 unfold yO at h
 split at h
 ·rename_i q hq
  cases hb:(Ga q&&(lI P ops).isSome) with
  |true=>rw [hb] at h;cases h
  |false=>rw [hb] at h;rw [hq];exact h
 ·cases h
theorem Cb {ops:Array Oper}{p:List (Oper × PK)}(h:yP P F ops=some p):lH P ops=some p:=by
 unfold yP at h
 cases hb:(F ⟨some 999999,.move (.tmp 0),0, "",#[],none⟩ [] ⟨[],[]⟩).isSome with
 |true=>rw [hb] at h;exact h
 |false=>
  rw [hb,cond_false] at h
  cases hs:ble ops.size 12 with
  |true=>rw [hs] at h;exact Ca h
  |false=>rw [hs] at h;cases h
theorem Iu {call:gE}{rnd:iY}(hc:fH P G call)(hrr:gF P G rnd)(hm:P.follows .mixedOrders=true){ro id:Nat}{ops:Array Oper}{σ:List TV}{T:VT}{D:List Nat}{Q:KX}(hnd:∀(j:Nat) o,ops[j]?=some o→ci o.op=true)
  (h:BZ P G F call rnd (min ro T.objs.length) ops σ T λσ T=>Q .normal σ T D) {r:Option Nat} {g:Gh} {w:World} {a:Act} (rw0:RW g T w) (hG:GOk G g w) (hσ:VRs g w σ a.tmps.toList) (hd:a.defers=D.map (mk g)) (hD:∀id∈D,(g.obj id).isSome=true):
  (Code.region id ops true).wpIn (ct r) 0 P (λe a' w'=>∃g' σ' T' D',Q e σ' T' D'∧Evo g w g' w'∧RW g' T' w'∧VRs g' w' σ' a'.tmps.toList∧a'.defers=D'.map (mk g')∧(∀id∈D',(g'.obj id).isSome=true)∧Fix ro g T w T' w') a w:=by
 unfold BZ at h
 split at h
 ·rename_i t2 t1 l hl
  obtain rfl:ops=(l.reverse.toArray.push t1).push t2:=by
   have:=congrArg List.reverse hl
   rw [List.reverse_reverse] at this
   apply Array.toList_inj.1
   rw [this]
   simp
  generalize l.reverse.toArray=zs at*
  cases hb:(mj zs t1&&mj (zs.push t1) t2&&dT (zs.push t1)&&dT zs&&nX zs) with
  |false=>rw [hb] at h;exact h.elim
  |true=>
   rw [hb] at h
   simp only [cond_true] at h
   simp only [and_eq_true] at hb
   obtain ⟨⟨⟨⟨h1,h2⟩,f1⟩,f0'⟩,ho⟩:=hb
   have g1:=rf h1
   have g2:=rf h2
   have st:VStat P zs []:=⟨f0',ho,rfl,rfl⟩
   have e0:=Evo.of_gr rw0 (Gr.refl w).drew
   have f0:Fix (min ro T.objs.length) g T w T w.drew:=Fix.of_same (Same.of_gr rw0 (Gr.refl w).drew) take_length
   have r1:RW g T w.drew:=rw0.drew
   have hw:∀(t:Oper) (zz:Array Oper) (tm:Array Value),t.guard.isNone=true→wanted t (yielded zz tm)=true:=λt zz tm hg=>by
    unfold wanted
    rw [Option.isNone_iff_eq_none.1 hg]
   have key:=N1 (r:=r) hc hrr st (λj o hj=>hnd j o (by
     have hlt:=(Array.getElem?_eq_some_iff.1 hj).1
     rw [getElem?_push,if_neg (by simp;omega),getElem?_push,if_neg (by omega)];exact hj)) (ro:=min ro T.objs.length) (K:=λσ1 T1=>i6 P G F call rnd (min ro T.objs.length) t1 σ1 T1 λσ1 T1=>i6 P G F call rnd (min ro T.objs.length) t2 σ1 T1 λσ T=>Q .normal σ T D) (gs:=g) (Ts:=T) (ws:=w) (ds:=a.defers)
    (QQ:=λa' w'=>wpOpIn (ct r) 0 P (zs.push t1) (dX λa' w'=>wpOpIn (ct r) 0 P ((zs.push t1).push t2) (dX λa' w'=>∃g' σ' T' D',Q .normal σ' T' D'∧Evo g w g' w'∧RW g' T' w'∧VRs g' w' σ' a'.tmps.toList∧a'.defers=D'.map (mk g')∧(∀id∈D',(g'.obj id).isSome=true)∧Fix ro g T w T' w') (zs.push t1).size (λa' w'=>∃g' σ' T' D',Q .normal σ' T' D'∧Evo g w g' w'∧RW g' T' w'∧VRs g' w' σ' a'.tmps.toList∧a'.defers=D'.map (mk g')∧(∀id∈D',(g'.obj id).isSome=true)∧Fix ro g T w T' w') a' w') zs.size
     (λa' w'=>wpOpIn (ct r) 0 P ((zs.push t1).push t2) (dX λa' w'=>∃g' σ' T' D',Q .normal σ' T' D'∧Evo g w g' w'∧RW g' T' w'∧VRs g' w' σ' a'.tmps.toList∧a'.defers=D'.map (mk g')∧(∀id∈D',(g'.obj id).isSome=true)∧Fix ro g T w T' w') (zs.push t1).size (λa' w'=>∃g' σ' T' D',Q .normal σ' T' D'∧Evo g w g' w'∧RW g' T' w'∧VRs g' w' σ' a'.tmps.toList∧a'.defers=D'.map (mk g')∧(∀id∈D',(g'.obj id).isSome=true)∧Fix ro g T w T' w') a' w') a' w')
    (λσ' T' g' w' a' hk e r' hσ' hd' hx=>by
     unfold wpOpIn
     simp only [getElem?_push,if_true,hw t1 _ _ g1]
     refine ix hc hrr hk r g' w' a' _ _ r' (hG.mono e) hσ' λσ'' T'' g'' w'' a'' _ hk' e' r'' hσ'' hd'' hx'=> ?_
     rw [if_pos (hw t2 _ _ g2)]
     exact ix hc hrr hk' r g'' w'' a'' _ _ r'' (hG.mono (e.trans e')) hσ'' λσ3 T3 g3 w3 a3 _ hk3 e3 r3 hσ3 hd3 hx3=>⟨g3,σ3,T3,D,hk3,(e.trans e').trans e3,r3,hσ3,by rw [hd3,hd'',hd',hd,mt ((e.trans e').trans e3) hD],fR ((e.trans e').trans e3) hD,((hx.trans e hx').trans (e.trans e') hx3).of_min⟩)
    zs.size zs.size (replicate zs.size false) T [] σ T (replicate zs.size false) g w.drew a (λ_=>none) h (VInv.start (hσ.mono e0) r1) (hG.mono e0) rfl e0 f0 (min_le_right _ _) (by
     unfold kX
     rw [Array.toList_replicate]
     exact le_trans List.count_le_length (by simp))
   have key2:=rg st.flow (sP h1) _ _ _ _ (by simp) (Closed.start _ _) key
   have key3:=rg f1 (sP h2) _ _ _ _ (by simp) (by rw [←jB];exact Closed.start _ _) key2
   refine wpIn_mono (wpIn_region_any hm (by rw [size_push,size_push,jB,jB];exact key3)) ?_
   intro e a' w' hq
   cases e<;>first | exact hq | exact hq.elim
 ·exact h.elim
theorem K4 {call:gE}{rnd:iY}(hc:fH P G call)(hrr:gF P G rnd)(hm:P.follows .mixedOrders=true){rd:Option Nat}{ro id:Nat}{ops:Array Oper}{σ:List TV}{T:VT}{D:List Nat}{Q:KX}
  (h:Gb P G F call rnd ro ops σ T λσ T=>Q .normal σ T D):VWx P G rd ro (.region id ops true) σ T D Q:=by
 intro r g w a rw0 hG hσ hd hD hrd
 unfold Gb at h
 cases hb:BV ops with
 |false=>rw [hb] at h;exact h.elim
 |true=>
  rw [hb] at h
  simp only [cond_true] at h
  have hnd:∀(j:Nat) o,ops[j]?=some o→ci o.op=true:=λj o ho=>by
   obtain ⟨hlt,he⟩:=Array.getElem?_eq_some_iff.1 ho
   exact List.all_eq_true.1 hb o (by rw [←he];exact Array.mem_toList_iff.2 (Array.getElem_mem hlt))
  have old:∀p,lH P ops=some p→eI P G F call rnd ro ops T false p σ T (λσ T=>Q .normal σ T D)→(Code.region id ops true).wpIn (ct r) 0 P (λe a' w'=>∃g' σ' T' D',Q e σ' T' D'∧Evo g w g' w'∧RW g' T' w'∧VRs g' w' σ' a'.tmps.toList∧a'.defers=D'.map (mk g')∧(∀id∈D',(g'.obj id).isSome=true)∧Fix ro g T w T' w') a w:=λp hp h=>by
   unfold lH at hp
   split at hp
   ·rename_i pl hpl
    cases hk:(Region.noSelect ops&&beq pl.length ops.size&&nD ops pl (replicate ops.size false)) with
    |false=>rw [hk] at hp;cases hp
    |true=>
     rw [hk] at hp
     simp only [and_eq_true] at hk
     obtain ⟨⟨hns,hlen⟩,hchk⟩:=hk
     have hlen:=eq_of_beq_eq_true hlen
     injection hp with hp;subst hp
     have e0:=Evo.of_gr rw0 (Gr.refl w).drew
     have f0:Fix (min ro T.objs.length) g T w T w.drew:=Fix.of_same (Same.of_gr rw0 (Gr.refl w).drew) take_length
     have r1:RW g T w.drew:=rw0.drew
     have key:=gS (r:=r) hc hrr hnd (Region.noSelect_spec hns) (Nat.min_le_left ro T.objs.length) (K:=λσ T=>Q .normal σ T D) (gs:=g) (Ts:=T) (ws:=w) (ds:=a.defers)
      (QQ:=λa' w'=>∃g' σ' T' D',Q .normal σ' T' D'∧Evo g w g' w'∧RW g' T' w'∧VRs g' w' σ' a'.tmps.toList∧a'.defers=D'.map (mk g')∧(∀id∈D',(g'.obj id).isSome=true)∧Fix ro g T w T' w')
      (λσ' T' g' w' a' hk e r' hσ' hd' hx=>⟨g',σ',T',D,hk,e,r',hσ',by rw [hd',hd,mt e hD],fR e hD,hx.of_min⟩)
      pl (replicate ops.size false) T false σ T hchk h g w.drew g w.drew a r1 (hG.mono e0) r1 (hσ.mono e0) rfl (Evo.refl _ _) (Same.refl _ _ _) take_length (λ_=>⟨rfl,rfl,rfl⟩) e0 f0 (min_le_right _ _)
      (λk o _ hk=>absurd hk (by
       rw [Array.getD_eq_getD_getElem?,Array.getElem?_replicate]
       split<;>simp)) (by simp)
     rw [hlen] at key
     refine wpIn_mono (wpIn_region_any hm (wU _ _ _ _ key)) ?_
     intro e a' w' hq
     cases e<;>first | exact hq | exact hq.elim
   ·cases hp
  split at h
  ·rename_i p hp
   exact old p (Cb hp) h
  ·split at h
   ·rename_i p hp
    obtain ⟨hns,st,hchk⟩:=vg hp
    have e0:=Evo.of_gr rw0 (Gr.refl w).drew
    have f0:Fix (min ro T.objs.length) g T w T w.drew:=Fix.of_same (Same.of_gr rw0 (Gr.refl w).drew) take_length
    have r1:RW g T w.drew:=rw0.drew
    have key:=zV (r:=r) hc hrr st (K:=λσ T=>Q .normal σ T D) (gs:=g) (Ts:=T) (ws:=w) (ds:=a.defers)
     (QQ:=λa' w'=>∃g' σ' T' D',Q .normal σ' T' D'∧Evo g w g' w'∧RW g' T' w'∧VRs g' w' σ' a'.tmps.toList∧a'.defers=D'.map (mk g')∧(∀id∈D',(g'.obj id).isSome=true)∧Fix ro g T w T' w')
     (λσ' T' g' w' a' hk e r' hσ' hd' hx=>⟨g',σ',T',D,hk,e,r',hσ',by rw [hd',hd,mt e hD],fR e hD,hx.of_min⟩)
     ops.size p (replicate ops.size false) T [] σ T (replicate ops.size false) g w.drew a (λ_=>none) hchk h (VInv.start (hσ.mono e0) r1) (hG.mono e0) rfl e0 f0 (min_le_right _ _) (by
      unfold kX
      rw [Array.toList_replicate]
      exact le_trans List.count_le_length (by simp))
    refine wpIn_mono (wpIn_region_any hm key) ?_
    intro e a' w' hq
    cases e<;>first | exact hq | exact hq.elim
   ·split at h
    ·rename_i p hp
     exact old p hp h
    ·split at h
     ·rename_i t p hl hp
      obtain ⟨ys,hys⟩:=List.getLast?_eq_some_iff.1 hl
      obtain rfl:ops=ys.toArray.push t:=by
       have:=congrArg List.toArray hys
       simpa using this
      have hcut:(ys.toArray.push t).toList.dropLast.toArray=ys.toArray:=by simp
      rw [hcut] at hp h
      cases hb2:mj ys.toArray t with
      |false=>rw [hb2] at h;exact h.elim
      |true=>
       rw [hb2] at h
       simp only [cond_true] at h
       have hgd:=rf hb2
       obtain ⟨hns,st,hchk⟩:=vg hp
       have e0:=Evo.of_gr rw0 (Gr.refl w).drew
       have f0:Fix (min ro T.objs.length) g T w T w.drew:=Fix.of_same (Same.of_gr rw0 (Gr.refl w).drew) take_length
       have r1:RW g T w.drew:=rw0.drew
       have key:=zV (r:=r) hc hrr st (K:=λσ' T'=>i6 P G F call rnd (min ro T.objs.length) t σ' T' λσ T=>Q .normal σ T D) (gs:=g) (Ts:=T) (ws:=w) (ds:=a.defers)
        (QQ:=λa' w'=>wpOpIn (ct r) 0 P (ys.toArray.push t) (dX λa' w'=>∃g' σ' T' D',Q .normal σ' T' D'∧Evo g w g' w'∧RW g' T' w'∧VRs g' w' σ' a'.tmps.toList∧a'.defers=D'.map (mk g')∧(∀id∈D',(g'.obj id).isSome=true)∧Fix ro g T w T' w') ys.toArray.size
         (λa' w'=>∃g' σ' T' D',Q .normal σ' T' D'∧Evo g w g' w'∧RW g' T' w'∧VRs g' w' σ' a'.tmps.toList∧a'.defers=D'.map (mk g')∧(∀id∈D',(g'.obj id).isSome=true)∧Fix ro g T w T' w') a' w')
        (λσ' T' g' w' a' hk e r' hσ' hd' hx=>by
         unfold wpOpIn
         have hw:wanted t (yielded (ys.toArray.push t) a'.tmps)=true:=by
          unfold wanted
          rw [Option.isNone_iff_eq_none.1 hgd]
         simp only [getElem?_push,if_true,hw]
         exact ix hc hrr hk r g' w' a' _ _ r' (hG.mono e) hσ' λσ'' T'' g'' w'' a'' _ hk' e' r'' hσ'' hd'' hx'=>⟨g'',σ'',T'',D,hk',e.trans e',r'',hσ'',by rw [hd'',hd',hd,mt (e.trans e') hD],fR (e.trans e') hD,(hx.trans e hx').of_min⟩)
        ys.toArray.size p (replicate ys.toArray.size false) T [] σ T (replicate ys.toArray.size false) g w.drew a (λ_=>none) hchk h (VInv.start (hσ.mono e0) r1) (hG.mono e0) rfl e0 f0 (min_le_right _ _) (by
         unfold kX
         rw [Array.toList_replicate]
         exact le_trans List.count_le_length (by simp))
       have key2:=rg st.flow (sP hb2) _ _ _ _ (by simp) (Closed.start _ _) key
       refine wpIn_mono (wpIn_region_any hm (by rw [size_push,jB];exact key2)) ?_
       intro e a' w' hq
       cases e<;>first | exact hq | exact hq.elim
     ·exact Iu hc hrr hm hnd h rw0 hG hσ hd hD
theorem VWx.here {rd:Option Nat}{ro:Nat}{c:Code}{σ:List TV}{T:VT}{D:List Nat}{Q:KX}{e:Exit}(h:Q e σ T D)(k:∀(F:Fence) (a:Act) w,∀R:Exit→Act→World→Prop,R e a w→c.wpIn F 0 P R a w):VWx P G rd ro c σ T D Q:=
 λr g w a rw0 hG hσ hd hD _=>k _ a w _ ⟨g,σ,T,D,h,Evo.refl g w,rw0,hσ,hd,hD,Fix.refl _ _ _ _⟩
theorem VWx.seq {rd:Option Nat}{ro:Nat}{x y:Code}{σ:List TV}{T:VT}{D:List Nat}{Q:KX}(h:VWx P G rd ro x σ T D (qZ (λσ T D=>VWx P G rd ro y σ T D Q) Q)):VWx P G rd ro (.seq x y) σ T D Q:=by
 intro r g w a rw0 hG hσ hd hD hrd
 refine wpIn_seq (wpIn_mono (h r g w a rw0 hG hσ hd hD hrd) ?_)
 rintro e a' w' ⟨g',σ',T',D',hq,e1,r',hσ',hd',hD',hx⟩
 cases e<;>first
  |exact ⟨g',σ',T',D',hq,e1,r',hσ',hd',hD',hx⟩
  |exact wpIn_mono (hq r g' w' a' r' (hG.mono e1) hσ' hd' hD' (BP e1 hrd)) λe a'' w'' ⟨g'',σ'',T'',D'',hq',e2,r2,s2,d2,dd2,x2⟩=>⟨g'',σ'',T'',D'',hq',e1.trans e2,r2,s2,d2,dd2,hx.trans e1 x2⟩
theorem VWx.block {rd:Option Nat}{ro id:Nat}{c:Code}{σ:List TV}{T:VT}{D:List Nat}{Q:KX}(h:VWx P G rd ro c σ T D (sK id Q)):VWx P G rd ro (.block id c) σ T D Q:=by
 intro r g w a rw0 hG hσ hd hD hrd
 refine wpIn_block (wpIn_mono (h r g w a rw0 hG hσ hd hD hrd) ?_)
 rintro e a' w' ⟨g',σ',T',D',hq,h⟩
 cases e with
 |exit id'=>
  simp only [Exit.inBlock]
  simp only [sK] at hq
  cases hb:beq id' id with
  |true=>
   rw [hb] at hq
   rw [if_pos (eq_of_beq_eq_true hb)];exact ⟨g',σ',T',D',hq,h⟩
  |false=>
   rw [hb] at hq
   rw [if_neg (Nat.ne_of_beq_eq_false hb)];exact ⟨g',σ',T',D',hq,h⟩
 |normal=>exact ⟨g',σ',T',D',hq,h⟩
 |goto l=>exact ⟨g',σ',T',D',hq,h⟩
 |ret=>exact ⟨g',σ',T',D',hq,h⟩
 |panic ch=>exact ⟨g',σ',T',D',hq,h⟩
 |outgrown=>exact ⟨g',σ',T',D',hq,h⟩
theorem VWx.cond {rd:Option Nat}{ro:Nat}{c:Operand}{x y:Code}{σ:List TV}{T:VT}{D:List Nat}{Q:KX}{b:Bool}(hc:bb G σ c=.val (.bool b))(ht:b=true→VWx P G rd ro x σ T D Q)(hf:b=false→VWx P G rd ro y σ T D Q):VWx P G rd ro (.cond c x y) σ T D Q:=by
 intro r g w a rw0 hG hσ hd hD hrd
 have h1:=eW hG hσ c
 rw [hc] at h1
 exact wpIn_cond_split h1.val_inv (λh=>ht h r g w a rw0 hG hσ hd hD hrd) (λh=>hf h r g w a rw0 hG hσ hd hD hrd)
section
variable {b:Frame}{a:Act}{k:List Item}{cs:List Frame}{w:World}
theorem iy {c:Code}:step P (lone (b.atR a (.code (.scope c)::k)) cs w)=.next (lone (b.atR a (.code c:: .inScope c::k)) cs w):=
 step_lone_go (by simp [stepG,stepG.exec,atR])
theorem AX {c:Code}:step P (lone (b.atR a (.inScope c::k)) cs w)=.next (lone (b.atR a k) cs w):=
 step_lone_go (by simp [stepG,stepG.exec,atR])
end
def Qg (Q:Exit→Act→World→Prop):Exit→Act→World→Prop
 | .goto _,_,_=>False
 |e,a,w=>Q e a w
theorem si {F:Fence}{n:Nat}{Q:Exit→Act→World→Prop}{a:Act}{w:World}{c:Code}(h:c.wpIn F n P (Qg Q) a w):(Code.scope c).wpIn F n P Q a w:=by
 intro b k cs hro hb hr
 have h0:(lone (b.atR a (.code (.scope c)::k)) cs w).fenced P F:=fenced_calm hb hr rfl
 obtain ⟨e,a₁,w₁,hq,harr⟩:=h b (.inScope c::k) cs hro hb hr
 cases e with
 |normal=>exact ⟨.normal,a₁,w₁,hq,.head h0 iy (StepsIn.trans harr (.one (fenced_calm hb hr rfl) AX))⟩
 |exit id=>
  have hx:exitTo id (.inScope c::k)=exitTo id k:=by simp [exitTo]
  exact ⟨.exit id,a₁,w₁,hq,λk' hk=>.head h0 iy (harr.1 k' (by rw [hx];exact hk)),
   λhr' hk=>let ⟨k₁,h1,h2⟩:=harr.2 hr' (by rw [hx];exact hk);⟨k₁,h1,.head h0 iy h2⟩⟩
 |goto l=>exact hq.elim
 |ret=>exact ⟨_,a₁,w₁,hq,.of_steps (.one h0 iy) harr⟩
 |panic ch=>exact ⟨_,a₁,w₁,hq,.of_steps (.one h0 iy) harr⟩
 |outgrown=>exact ⟨_,a₁,w₁,hq,.of_steps (.one h0 iy) harr⟩
theorem VWx.scope {rd:Option Nat}{ro:Nat}{c:Code}{σ:List TV}{T:VT}{D:List Nat}{Q:KX}(h:VWx P G rd ro c σ T D (Ih Q)):VWx P G rd ro (.scope c) σ T D Q:=by
 intro r g w a rw0 hG hσ hd hD hrd
 refine si (wpIn_mono (h r g w a rw0 hG hσ hd hD hrd) ?_)
 rintro e a' w' ⟨g',σ',T',D',hq,h⟩
 cases e<;>first
  |exact ⟨g',σ',T',D',hq,h⟩
  |exact hq.elim
theorem VWx.loop {rd:Option Nat}{ro:Nat}{c:Code}{σ:List TV}{T:VT}{D:List Nat}{Q:KX}(I:Nat→List TV→VT→List Nat→Prop)(n:Nat)(h0:I n σ T D)
  (round:∀n σ T D,I n σ T D→VWx P G rd ro c σ T D (qZ (λσ' T' D'=>∃n',n' <n∧I n' σ' T' D') Q)):VWx P G rd ro (.loop c) σ T D Q:=by
 intro r g w a rw0 hG hσ hd hD hrd
 refine wpIn_loop_ghost (λn a' w'=>∃g' σ' T' D',I n σ' T' D'∧Evo g w g' w'∧RW g' T' w'∧VRs g' w' σ' a'.tmps.toList∧a'.defers=D'.map (mk g')∧(∀id∈D',(g'.obj id).isSome=true)∧Fix ro g T w T' w') n ⟨g,σ,T,D,h0,Evo.refl _ _,rw0,hσ,hd,hD,Fix.refl _ _ _ _⟩ ?_
 rintro m a' w' ⟨g',σ',T',D',hI,e1,r',hσ',hd',hD',hx⟩
 refine wpIn_mono (round m σ' T' D' hI r g' w' a' r' (hG.mono e1) hσ' hd' hD' (BP e1 hrd)) ?_
 rintro e a'' w'' ⟨g'',σ'',T'',D'',hq,e2,r2,s2,d2,dd2,x2⟩
 cases e<;>first
  |exact ⟨g'',σ'',T'',D'',hq,e1.trans e2,r2,s2,d2,dd2,hx.trans e1 x2⟩
  | (obtain ⟨n',hn,hI'⟩:=hq;exact ⟨n',hn,g'',σ'',T'',D'',hI',e1.trans e2,r2,s2,d2,dd2,hx.trans e1 x2⟩)
theorem k9 {g:Gh}{T:VT}{w:World}(r:RW g T w){id b:Nat}{st:LoopState}{pend:Option Code}{σ:List TV}{ps:Array Tmp}{asg body:Code}(ho:T.objs[id]?=some (.loop st pend σ ps asg body))(hb:g.obj id=some b):
  ∃rec:Loop,w.heap[b]?=some (.loop rec)∧rec.state=st∧rec.pending=pend∧rec.params=ps∧rec.assign=asg∧rec.body=body∧VRs g w σ rec.tmps.toList∧
   ∀st' pend',RW g (T.setLoop id st' pend' σ ps asg body) (w.putObj b (.loop {rec with state:=st',pending:=pend' }))∧Evo g w g (w.putObj b (.loop {rec with state:=st',pending:=pend' }))∧
    ∀ro,ro≤id→Fix ro g T w (T.setLoop id st' pend' σ ps asg body) (w.putObj b (.loop {rec with state:=st',pending:=pend' })):=by
 obtain ⟨b',h1,h2,h3,h4⟩:=r.obj id _ ho rfl
 rw [hb] at h1;injection h1 with h1;subst h1
 obtain ⟨us,fn,db,h5,h6⟩:=h2
 have hlt:=(Array.getElem?_eq_some_iff.1 h5).1
 refine ⟨_,h5,rfl,rfl,rfl,rfl,rfl,h6,λst' pend'=> ?_⟩
 have hnew:=World.putObj_heap_same (w:=w) (o:=.loop {state:=st',pending:=pend',fn:=fn,tmps:=us.toArray,params:=ps,assign:=asg,body:=body,defers:=db}) hlt
 have hoth:∀c,c≠b→(w.putObj b (.loop {state:=st',pending:=pend',fn:=fn,tmps:=us.toArray,params:=ps,assign:=asg,body:=body,defers:=db})).heap[c]?=w.heap[c]?:=λc hc=>World.putObj_heap_other hc
 have key:∀(hE:∀w',w'=w.putObj b (.loop {state:=st',pending:=pend',fn:=fn,tmps:=us.toArray,params:=ps,assign:=asg,body:=body,defers:=db})→Evo g w g w'),RW g (T.setLoop id st' pend' σ ps asg body) (w.putObj b (.loop {state:=st',pending:=pend',fn:=fn,tmps:=us.toArray,params:=ps,assign:=asg,body:=body,defers:=db}))∧Evo g w g (w.putObj b (.loop {state:=st',pending:=pend',fn:=fn,tmps:=us.toArray,params:=ps,assign:=asg,body:=body,defers:=db})):=λhE=>
  r.setObj (o':=.loop st' pend' σ ps asg body) ho rfl hb ⟨rfl,rfl,rfl⟩ putObj_size hoth (by unfold bI;rw [hnew,h5]) λ_=>⟨us,fn,db,hnew,h6.mono (hE _ rfl)⟩
 have hE:=(r.setObj (o':=.gone) ho rfl hb (w':=w.putObj b (.loop {state:=st',pending:=pend',fn:=fn,tmps:=us.toArray,params:=ps,assign:=asg,body:=body,defers:=db})) ⟨rfl,rfl,rfl⟩ putObj_size hoth (by unfold bI;rw [hnew,h5]) λh=>by cases h).2
 obtain ⟨k1,k2⟩:=key λw' hw=>by rw [hw];exact hE
 exact ⟨k1,k2,λro hr=>df r ho rfl hb hr hoth⟩
theorem sQ {fn:Func}{ro:Nat}{σ:List TV}{K:TV→VT→Prop}{tmps:Array Value}{g0:Gh}{T0:VT}{w0:World}:∀(D:List Nat) (T T':VT) (g:Gh) (w:World) (x:TV),qk ro D T=some T'→nS P T' σ fn.results=some x→K x T'→
  RW g T w→VRs g w σ tmps.toList→Evo g0 w0 g w→Fix ro g0 T0 w0 T w→
  LeavesInM (ct none) 0 P fn tmps (λe w'=>∃v x g' T',e=.returned v∧K x T'∧Evo g0 w0 g' w'∧RW g' T' w'∧VR g' w' x v∧Fix ro g0 T0 w0 T' w') (D.map (mk g)) .returning w
 |[],T,T',g,w,x,h,hr,hk,r,hσ,e,hx=>by
  simp only [qk] at h
  injection h with h;subst h
  obtain ⟨v,h1,h2⟩:=D4 (a:={tmps:=tmps,defers:= []}) r hσ hr
  exact ⟨v,h2,v,x,g,T,rfl,hk,e,r,h1,hx⟩
 |id::D,T,T',g,w,x,h,hr,hk,r,hσ,e,hx=>by
  simp only [qk] at h
  split at h
  ·rename_i ho
   cases hb:ble ro id with
   |false=>rw [hb] at h;cases h
   |true=>
    rw [hb] at h
    simp only [cond_true] at h
    obtain ⟨b,h1,h2,h3,h4⟩:=r.obj id _ ho rfl
    have hlt:=(Array.getElem?_eq_some_iff.1 h2).1
    have hnew:=World.putObj_heap_same (w:=w) (o:=.deferred none) hlt
    have hoth:∀c,c≠b→(w.putObj b (.deferred none)).heap[c]?=w.heap[c]?:=λc hc=>World.putObj_heap_other hc
    obtain ⟨k1,k2⟩:=r.setObj (o':=.gone) ho rfl h1 (w':=w.putObj b (.deferred none)) ⟨rfl,rfl,rfl⟩ putObj_size hoth (by unfold bI;rw [hnew,show w.heap[b]?=_ from h2]) λh=>by cases h
    have k3:Fix ro g T w (T.kill id) (w.putObj b (.deferred none)):=df r ho rfl h1 (le_of_ble_eq_true hb) hoth
    refine ⟨λh=>(by cases h),.inl ⟨b,w.putObj b (.deferred none),by simp [mk,h1],run_takeDeferred h2,?_⟩⟩
    exact sQ D (T.kill id) T' g _ x h hr hk k1 (hσ.mono k2) (e.trans k2) (hx.trans e k3)
  ·cases h
theorem zW {fn:Func}{ro:Nat}{K:TV→VT→Prop}{σ:List TV}{T:VT}{D:List Nat}(h:wZ P fn ro σ T D K):∃T' x,qk ro D T=some T'∧nS P T' σ fn.results=some x∧K x T':=by
 unfold wZ at h
 split at h
 ·rename_i T' hT
  split at h
  ·rename_i x hx;exact ⟨T',x,hT,hx,h⟩
  ·exact h.elim
 ·exact h.elim
theorem VCx.enter {ro:Nat}{f:FuncId}{fn:Func}{c:Code}{xs:List TV}{T:VT}{K:TV→VT→Prop}(hf:P.funcs[f]?=some fn)(hb:fn.body=some c)
  (h:VWx P G none ro c (w5 fn xs) T [] (A8 P fn ro K)):VCx P G ro f xs T K:=by
 intro g w us rw0 hG hx
 refine BO (r:=none) (n:=0) (callsIn_of_wp_marks hf hb trivial (wpIn_mono (h none g w _ rw0 hG ?_ rfl (λ_ h=>nomatch h) rfl) ?_))
 ·have e1:(us.toArray++replicate (fn.ntmps-us.toArray.size) undef).toList=us++(List.replicate (fn.ntmps-xs.length) undef):=by simp [hx.1]
  rw [e1]
  refine hx.app ?_
  have:=VRs.vals g w (List.replicate (fn.ntmps-xs.length) undef)
  simpa using this
 ·rintro e a' w' ⟨g',σ',T',D',hq,e1,r',hσ',hd',hD',hx'⟩
  cases e with
  |normal=>
   obtain ⟨T'',x,h1,h2,h3⟩:=zW (P:=P) hq
   simp only [bodyPostM,hd']
   exact sQ D' T' T'' g' w' x h1 h2 h3 r' hσ' e1 hx'
  |ret=>
   obtain ⟨T'',x,h1,h2,h3⟩:=zW (P:=P) hq
   simp only [bodyPostM,hd']
   exact sQ D' T' T'' g' w' x h1 h2 h3 r' hσ' e1 hx'
  |exit id=>exact hq.elim
  |goto l=>exact hq.elim
  |panic ch=>exact hq.elim
  |outgrown=>exact hq.elim
def Gp (P:Program)(G:aP)(run:yQ):Prop:=∀rd ro c σ T D K,run rd ro c σ T D K→VWx P G rd ro c σ T D K
theorem xc {g:Gh}{w:World}:∀(ps:List Tmp) (xs σ:List TV) (us tmps:List Value),VRs g w xs us→VRs g w σ tmps→VRs g w (nG ps xs σ) ((ps.zip us).foldl (λt p=>t.set p.1 p.2) tmps)
 |[],xs,σ,us,tmps,hx,hσ=>by simpa [nG] using hσ
 |p::ps,[],σ,us,tmps,hx,hσ=>by
  have:us= []:=List.eq_nil_of_length_eq_zero hx.1
  subst this
  simpa [nG] using hσ
 |p::ps,x::xs,σ,[],tmps,hx,hσ=>by have:=hx.1;simp at this
 |p::ps,x::xs,σ,u::us,tmps,hx,hσ=>by
  simp only [nG,List.zip_cons_cons,foldl_cons]
  exact xc ps xs _ us _ ⟨by simpa using hx.1,λj y v hy hv=>hx.2 (j+1) y v (by simpa using hy) (by simpa using hv)⟩ (hσ.set p (hx.2 0 x u rfl rfl))
theorem Ee (ps:Array Tmp)(us:List Value)(tmps:Array Value):((ps.zip us.toArray).foldl (λtmps (t,a)=>tmps.setIfInBounds t a) tmps).toList=(ps.toList.zip us).foldl (λt p=>t.set p.1 p.2) tmps.toList:=by
 rw [←Array.foldl_toList]
 simp only [Array.toList_zip]
 generalize ps.toList.zip us=l
 induction l generalizing tmps with
 |nil=>rfl
 |cons p l ih=>simp only [foldl_cons];rw [ih];simp
theorem Cc {ro id:Nat}{st:LoopState}{pend:Option Code}{T:VT}{K:VT→Prop}(h:kD ro id st pend T K):∃st0 pend0 σ ps asg body,T.objs[id]?=some (.loop st0 pend0 σ ps asg body)∧ro≤id∧K (T.setLoop id st pend σ ps asg body):=by
 unfold kD at h
 split at h
 ·rename_i st0 pend0 σ ps asg body ho
  cases hb:ble ro id with
  |false=>rw [hb] at h;exact h.elim
  |true=>rw [hb] at h;exact ⟨_,_,_,_,_,_,ho,le_of_ble_eq_true hb,h⟩
 ·exact h.elim
theorem zX {run:yQ}(hrun:Gp P G run):gF P G (ql run):=by
 intro ro id xs T K h g w us rw0 hG hxs
 unfold ql at h
 split at h
 ·rename_i σ ps asg body ho
  cases hb:(ble ro id&&beq ps.size xs.length) with
  |false=>rw [hb] at h;exact h.elim
  |true=>
   rw [hb] at h
   simp only [and_eq_true] at hb
   obtain ⟨hro,hsz⟩:=hb
   have hro:=le_of_ble_eq_true hro
   have hsz:=eq_of_beq_eq_true hsz
   simp only [cond_true] at h
   obtain ⟨b,hgb,_⟩:=rw0.obj id _ ho rfl
   obtain ⟨rec,h1,h2,h3,h4,h5,h6,h7,_⟩:=k9 rw0 ho hgb
   refine ⟨b,_,_,_,_,hgb,run_yield h1 (by rw [h4];simpa [hxs.1] using hsz.symm),?_⟩
   rw [h4,h5,h6]
   refine roundIn_of_wpIn (F:=Fence.wide) trivial ?_
   refine wpIn_mono (hrun _ _ _ _ _ _ _ h (some b) g w {tmps:=_,defers:= []} rw0 hG ?_ rfl (λ_ h=>nomatch h) ⟨rfl,hgb⟩) ?_
   ·simp only
    rw [Ee]
    exact xc _ _ _ _ _ hxs h7
   ·rintro e a' w' ⟨g',σ',T',D',hq,e1,r',hσ',hd',hD',hx'⟩
    cases e with
    |normal=>
     simp only at hq
     split at hq
     ·rename_i σ2 ps2 asg2 body2 ho2
      have hgb':=e1.obj id b hgb
      obtain ⟨rec2,k1,k2,k3,k4,k5,k6,k7,k8⟩:=k9 r' ho2 hgb'
      obtain ⟨m1,m2,m3⟩:=k8 .busy none
      have hrec:({rec2 with state:=.busy}:Loop)={rec2 with state:=.busy,pending:=none}:=by
       rw [←k3]
      refine ⟨_,run_beginRound k1 k2,?_⟩
      rw [hrec]
      refine wpIn_mono (hrun _ _ _ _ _ _ _ hq (some b) g' _ a' m1 ((hG.mono e1).mono m2) (hσ'.mono m2) hd' hD' ⟨rfl,hgb'⟩) ?_
      have fx:=hx'.trans e1 (m3 ro hro)
      rintro e a2 w2 ⟨g2,σ2',T2,D2,hq2,e2,r2,hσ2,hd2,hD2,hx2⟩
      have hgb2:=e2.obj id b hgb'
      have ee:=(e1.trans m2).trans e2
      have ff:=fx.trans (e1.trans m2) hx2
      have fin:∀(st:LoopState) (pend:Option Code) (y:TV) (v:Value) (vd:VR g2 w2 y v),kD ro id st pend T2 (λT=>K y T)→st=(if pend.isNone then .ready else .done)→v=.bool pend.isNone→
        ∃v' w',(Instr.endRound b pend).run P w2=.ok v' w'∧∃v x g' T',(Ending.returned v'=.returned v)∧K x T'∧Evo g w g' w'∧RW g' T' w'∧VR g' w' x v∧Fix ro g T w T' w':=by
       intro st pend y v vd hv hst hvv
       obtain ⟨st0,pend0,σ3,ps3,asg3,body3,n1,n2,n3⟩:=Cc hv
       obtain ⟨rec3,p1,p2,p3,p4,p5,p6,p7,p8⟩:=k9 r2 n1 hgb2
       obtain ⟨q1,q2,q3⟩:=p8 st pend
       refine ⟨_,_,run_endRound pend p1,v,y,g2,_,by rw [hvv],n3,?_⟩
       rw [←hst]
       exact ⟨ee.trans q2,q1,vd.mono q2,ff.trans ee (q3 ro hro)⟩
      cases e with
      |normal=>exact fin .ready none _ _ (.val (.bool true)) hq2 rfl rfl
      |ret=>exact fin .done (some .ret) _ _ (.val (.bool false)) hq2 rfl rfl
      |exit i=>exact fin .done (some (.exit i)) _ _ (.val (.bool false)) hq2 rfl rfl
      |goto l=>exact hq2.elim
      |panic ch=>exact hq2.elim
      |outgrown=>exact hq2.elim
     ·exact hq.elim
    |ret=>exact hq.elim
    |exit i=>exact hq.elim
    |goto l=>exact hq.elim
    |panic ch=>exact hq.elim
    |outgrown=>exact hq.elim
 ·exact h.elim
theorem Cd {ro id:Nat}{σ:List TV}{D:List Nat}{K:KX}{T:VT}(h:i7 ro id σ D K T):∃st pend σ' ps asg body e,T.objs[id]?=some (.loop st pend σ' ps asg body)∧ro≤id∧K e σ (T.setLoop id .exhausted pend σ' ps asg body) D∧st≠ .busy∧
  ((pend=none∧e=.normal)∨(pend=some .ret∧e=.ret)∨∃x,pend=some (.exit x)∧e=.exit x):=by
 unfold i7 at h
 split at h
 ·rename_i ho
  cases hb:ble ro id with
  |false=>rw [hb] at h;exact h.elim
  |true=>rw [hb] at h;exact ⟨_,_,_,_,_,_,_,ho,le_of_ble_eq_true hb,h,(λh=>by cases h),.inl ⟨rfl,rfl⟩⟩
 ·rename_i ho
  cases hb:ble ro id with
  |false=>rw [hb] at h;exact h.elim
  |true=>rw [hb] at h;exact ⟨_,_,_,_,_,_,_,ho,le_of_ble_eq_true hb,h,(λh=>by cases h),.inr (.inl ⟨rfl,rfl⟩)⟩
 ·rename_i ho
  cases hb:ble ro id with
  |false=>rw [hb] at h;exact h.elim
  |true=>rw [hb] at h;exact ⟨_,_,_,_,_,_,_,ho,le_of_ble_eq_true hb,h,(λh=>by cases h),.inr (.inr ⟨_,rfl,rfl⟩)⟩
 ·exact h.elim
theorem sR {r:Option Nat}{ro id b:Nat}{σ:List TV}{D:List Nat}{K:KX}{T':VT}(h:i7 ro id σ D K T'){g0:Gh}{T0:VT}{w0:World}{g':Gh}{w':World}{a':Act}(r':RW g' T' w')(hb:g'.obj id=some b)(e1:Evo g0 w0 g' w')(hx:Fix ro g0 T0 w0 T' w')
  (hσ:VRs g' w' σ a'.tmps.toList) (hd:a'.defers=D.map (mk g')) (hD:∀id∈D,(g'.obj id).isSome=true) (v:Value):
  rangePost (ct r) 0 P b (λe a' w'=>∃g' σ' T' D',K e σ' T' D'∧Evo g0 w0 g' w'∧RW g' T' w'∧VRs g' w' σ' a'.tmps.toList∧a'.defers=D'.map (mk g')∧(∀id∈D',(g'.obj id).isSome=true)∧Fix ro g0 T0 w0 T' w') a' (.returned v) w':=by
 obtain ⟨st,pend,σ',ps,asg,body,e,n1,n2,n3,n4,n5⟩:=Cd h
 obtain ⟨rec3,p1,p2,p3,p4,p5,p6,p7,p8⟩:=k9 r' n1 hb
 obtain ⟨q1,q2,q3⟩:=p8 .exhausted pend
 have hrec:({rec3 with state:=.exhausted}:Loop)={rec3 with state:=.exhausted,pending:=pend}:=by rw [←p3]
 refine ⟨_,_,run_endLoop p1 (by rw [p2];exact n4),?_⟩
 rw [hrec,p3]
 have fin:∃g'' σ'' T'' D'',K e σ'' T'' D'' ∧Evo g0 w0 g'' (w'.putObj b (.loop {rec3 with state:=.exhausted,pending:=pend}))∧RW g'' T'' (w'.putObj b (.loop {rec3 with state:=.exhausted,pending:=pend}))∧VRs g'' (w'.putObj b (.loop {rec3 with state:=.exhausted,pending:=pend})) σ'' a'.tmps.toList∧a'.defers=D''.map (mk g'')∧(∀id∈D'',(g''.obj id).isSome=true)∧Fix ro g0 T0 w0 T'' (w'.putObj b (.loop {rec3 with state:=.exhausted,pending:=pend})):=
  ⟨g',σ,_,D,n3,e1.trans q2,q1,hσ.mono q2,hd,hD,hx.trans e1 (q3 ro n2)⟩
 rcases n5 with ⟨rfl,rfl⟩ | ⟨rfl,rfl⟩ | ⟨x,rfl,rfl⟩
 ·exact fin
 ·exact wpIn_ret fin
 ·exact wpIn_exit fin
theorem Ce {α:Type}(l m:List α):(l++m).take l.length=l:=by simp
theorem EE (us vs:List Value)(y:Value):(us.toArray++ #[y])++vs.toArray=(us++ [y]++vs).toArray:=by simp
theorem vk {a:Act}{f:Operand}{l:Nat}{fi:FuncId}{us vs:List Value}(h:a.eval f=.func (.func fi) us.toArray vs.toArray)(w:World):
  (resolve a.eval (rangeCall f l) 0).run P w=.ok {target:=.fn (.func fi) vs.toArray,args:=us.toArray++ #[.func (.yield l) #[] #[]]} w:=by
 have hc:a.eval (.const (.func (.yield l) #[] #[]))=.func (.yield l) #[] #[]:=rfl
 simp [resolve,h,hc,Deferred.ofValue]
theorem xd {fi:FuncId}{fn:Func}{args vs:Array Value}(hfn:P.funcs[fi]?=some fn)(hb:fn.body.isSome=true)(hnm:(fn.name== "runtime.NumGoroutine")=false)(w:World):
  (invoke (.fn (.func fi) vs) args).run P w=.ok (.enter fi (args++vs)) w:=by
 have hb':fn.body≠none:=by intro h;rw [h] at hb;cases hb
 have hnm':fn.name≠ "runtime.NumGoroutine" :=by simpa using hnm
 simp [invoke,callFunc,hfn,hnm',hb']
theorem VWx.range0 {ro:Nat}{f:Operand}{ps:Array Tmp}{asg body:Code}{σ:List TV}{T:VT}{D:List Nat}{K:KX}{fi:FuncId}{fn:Func}{first ca:List TV}(hf:bb G σ f=.fn (.func fi) first ca)
  (hfn:P.funcs[fi]?=some fn) (hb:fn.body.isSome=true) (hnm:(fn.name== "runtime.NumGoroutine")=false)
  (hc:VCx P G ro fi (first++ [.yld (T.objs.length+1)]++ca) {T with objs:=T.objs++ [.defd]++ [.loop .ready none σ ps asg body]} λ_ T'=>i7 ro (T.objs.length+1) σ (T.objs.length::D) K T'):
  VWx P G none ro (.rangeFunc f ps asg body) σ T D K:=by
 intro r g w a rw0 hG hσ hd hD hrd
 have hrd:r=none:=hrd
 subst hrd
 have hv:=eW hG hσ f
 rw [hf] at hv
 obtain ⟨us,vs,h2,h3,h4⟩:=hv.fn_inv
 refine wpIn_rangeFunc λfd _=> ?_
 obtain ⟨g1,r1,e1,ho1,_⟩:=rw0.new (.deferred (some [])) (o:=.defd) rfl (alloc_heap_new _ _)
 have hE:=Evo.of_gr r1 ((Gr.refl (w.alloc (.deferred (some [])))).alloc (.loop {state:=.ready,pending:=none,fn:=fd,tmps:=a.tmps,params:=ps,assign:=asg,body:=body,defers:=w.heap.size}))
 obtain ⟨g2,r2,e2,ho2,_⟩:=r1.new (.loop {state:=.ready,pending:=none,fn:=fd,tmps:=a.tmps,params:=ps,assign:=asg,body:=body,defers:=w.heap.size}) (o:=.loop .ready none σ ps asg body) rfl
  ⟨a.tmps.toList,fd,w.heap.size,alloc_heap_new _ _,hσ.mono (e1.trans hE)⟩
 have ee:=e1.trans e2
 have hl:(w.alloc (.deferred (some []))).heap.size=w.heap.size+1:=World.size_alloc ..
 have hl2:({T with objs:=T.objs++ [.defd]}:VT).objs.length=T.objs.length+1:=by simp
 rw [hl,hl2] at ho2
 have ho1':=e2.obj _ _ ho1
 have f1:Fix ro g T w {T with objs:=T.objs++ [.defd]++ [.loop .ready none σ ps asg body]} ((w.alloc (.deferred (some []))).alloc (.loop {state:=.ready,pending:=none,fn:=fd,tmps:=a.tmps,params:=ps,assign:=asg,body:=body,defers:=w.heap.size})):=
  Fix.of_same (Same.of_gr rw0 (((Gr.refl w).alloc _).alloc _)) (by simp only [List.append_assoc];exact Ce _ _)
 refine ⟨w.heap.size+1,[{target:=.collected w.heap.size,args:= #[]}],_,_,_,fi,_,_,run_enterLoop_outer fd a.tmps ps asg body,vk h2 _,λ_ _=>trivial,xd hfn hb hnm _,λh=>(by cases h),?_⟩
 have hargs:VRs g2 _ (first++ [.yld (T.objs.length+1)]++ca) (us++ [.func (.yield (w.heap.size+1)) #[] #[]]++vs):=((h3.mono ee).app (VRs.cons (.yld ho2) (VRs.nil _ _))).app (h4.mono ee)
 have hcall:=hc g2 _ _ r2 (hG.mono ee) hargs
 have ha:(us.toArray++ #[Value.func (.yield (w.heap.size+1)) #[] #[]])++vs.toArray=(us++ [Value.func (.yield (w.heap.size+1)) #[] #[]]++vs).toArray:=EE us vs _
 rw [ha]
 refine pH (Calls.mono hcall ?_)
 rintro e w' ⟨v,x,g',T',rfl,hq,e3,r',hv,hx⟩
 have eE:=ee.trans e3
 refine sR (a':={tmps:=a.tmps,defers:= [{target:=.collected w.heap.size,args:= #[]}]++a.defers}) hq r' (e3.obj _ _ ho2) eE (f1.trans ee hx) (hσ.mono eE) ?_ ?_ v
 ·show [_]++a.defers=_
  rw [hd,map_cons,mt eE hD]
  simp [mk,e3.obj _ _ ho1']
 ·intro id hid
  rcases mem_cons.1 hid with rfl | hid
  ·rw [e3.obj _ _ ho1'];rfl
  ·exact fR eE hD id hid
theorem VWx.range1 {i0 ro:Nat}{f:Operand}{ps:Array Tmp}{asg body:Code}{σ:List TV}{T:VT}{D:List Nat}{K:KX}{fi:FuncId}{fn:Func}{first ca:List TV}{st0:LoopState}{pend0:Option Code}{σ0:List TV}{ps0:Array Tmp}{asg0 body0:Code}
  (hf:bb G σ f=.fn (.func fi) first ca) (hlp:T.objs[i0]?=some (.loop st0 pend0 σ0 ps0 asg0 body0))
  (hfn:P.funcs[fi]?=some fn) (hb:fn.body.isSome=true) (hnm:(fn.name== "runtime.NumGoroutine")=false)
  (hc:VCx P G ro fi (first++ [.yld T.objs.length]++ca) {T with objs:=T.objs++ [.loop .ready none σ ps asg body]} λ_ T'=>i7 ro T.objs.length σ D K T'):
  VWx P G (some i0) ro (.rangeFunc f ps asg body) σ T D K:=by
 intro r g w a rw0 hG hσ hd hD hrd
 obtain ⟨hr1,hr2⟩:=hrd
 obtain ⟨b0,rfl⟩:=Option.isSome_iff_exists.1 hr1
 obtain ⟨rec0,k1,_⟩:=k9 rw0 hlp hr2
 have hv:=eW hG hσ f
 rw [hf] at hv
 obtain ⟨us,vs,h2,h3,h4⟩:=hv.fn_inv
 refine wpIn_rangeFunc λfd _=> ?_
 have hE:=Evo.of_gr rw0 ((Gr.refl w).alloc (.loop {state:=.ready,pending:=none,fn:=fd,tmps:=a.tmps,params:=ps,assign:=asg,body:=body,defers:=rec0.defers}))
 obtain ⟨g2,r2,ee,ho2,_⟩:=rw0.new (.loop {state:=.ready,pending:=none,fn:=fd,tmps:=a.tmps,params:=ps,assign:=asg,body:=body,defers:=rec0.defers}) (o:=.loop .ready none σ ps asg body) rfl
  ⟨a.tmps.toList,fd,rec0.defers,alloc_heap_new _ _,hσ.mono hE⟩
 have f1:Fix ro g T w {T with objs:=T.objs++ [.loop .ready none σ ps asg body]} (w.alloc (.loop {state:=.ready,pending:=none,fn:=fd,tmps:=a.tmps,params:=ps,assign:=asg,body:=body,defers:=rec0.defers})):=
  Fix.of_same (Same.of_gr rw0 ((Gr.refl w).alloc _)) (Ce _ _)
 refine ⟨w.heap.size,[],_,_,_,fi,_,_,run_enterLoop_inner k1 fd a.tmps ps asg body,vk h2 _,λ_ _=>trivial,xd hfn hb hnm _,λh=>(by cases h),?_⟩
 have hargs:VRs g2 _ (first++ [.yld T.objs.length]++ca) (us++ [.func (.yield w.heap.size) #[] #[]]++vs):=((h3.mono ee).app (VRs.cons (.yld ho2) (VRs.nil _ _))).app (h4.mono ee)
 have hcall:=hc g2 _ _ r2 (hG.mono ee) hargs
 have ha:(us.toArray++ #[Value.func (.yield w.heap.size) #[] #[]])++vs.toArray=(us++ [Value.func (.yield w.heap.size) #[] #[]]++vs).toArray:=EE us vs _
 rw [ha]
 refine pH (Calls.mono hcall ?_)
 rintro e w' ⟨v,x,g',T',rfl,hq,e3,r',hv,hx⟩
 have eE:=ee.trans e3
 refine sR (a':={tmps:=a.tmps,defers:= []++a.defers}) hq r' (e3.obj _ _ ho2) eE (f1.trans ee hx) (hσ.mono eE) ?_ (fR eE hD) v
 show []++a.defers=_
 rw [hd,mt eE hD];rfl
def bu (P:Program)(G:aP)(C:FuncId→Option be):Prop:=∀f W,C f=some W→∀ro xs T K,W ro xs T K→VCx P G ro f xs T K
def eQ (P:Program):Bool:=P.funcs.toList.all λfn=> !fn.body.isSome || !(fn.name== "runtime.NumGoroutine")
theorem zY {C:FuncId→Option be}(hB:eQ P=true)(hC:bu P G C){run:yQ}(hrun:Gp P G run):fH P G (kC P C run):=by
 intro ro f xs T K h
 unfold kC at h
 split at h
 ·rename_i fn hf
  split at h
  ·rename_i c hc
   have hnm:(fn.name== "runtime.NumGoroutine")=false:=by
    have hmem:fn∈P.funcs.toList:=by
     obtain ⟨hlt,he⟩:=Array.getElem?_eq_some_iff.1 hf
     rw [←he];exact Array.mem_toList_iff.2 (Array.getElem_mem hlt)
    have:=List.all_eq_true.1 hB fn hmem
    simpa [hc] using this
   refine ⟨fn,hf,by rw [hc];rfl,hnm,?_⟩
   split at h
   ·rename_i W hW
    exact hC f W hW ro xs T K h
   ·exact VCx.enter hf hc (hrun _ _ _ _ _ _ _ h)
  ·exact h.elim
 ·exact h.elim
def dy (P:Program)(G:aP)(L:Nat→Option (bW × Code)):Prop:=∀id W c,L id=some (W,c)→∀rd ro σ T D K,W rd ro σ T D K→VWx P G rd ro c σ T D K
theorem ag:dy P G λ_=>none:=λ_ _ _ h=>by cases h
theorem uA {C:FuncId→Option be}(hm:P.follows .mixedOrders=true)(hB:eQ P=true)(hC:bu P G C):
  ∀n m,m≤n→∀F L,dy P G L→Gp P G (vx P G C F m L)
 |_,0,_,_,_,_,_,_,_,_,_,_,_,h=>by simp only [vx] at h;exact h.elim
 | 0,m+1,hle,_,_,_,_,_,_,_,_,_,_,_=>by omega
 |n+1,m+1,hle,F,L,hL,rd,ro,c,σ,T,D,K,h=>by
  have ih:=λm hm0=>uA hm hB hC n m hm0 F L hL
  have ih0:=λm hm0=>uA hm hB hC n m hm0 aR (λ_=>none) ag
  have hcal:fH P G (kC P C (vx P G C aR m λ_=>none)):=zY hB hC (ih0 m (by omega))
  have hrnd:gF P G (ql (vx P G C aR m λ_=>none)):=zX (ih0 m (by omega))
  unfold vx at h
  cases c with
  |skip=>exact VWx.here (e:=.normal) h λF a w R hr=>wpIn_skip hr
  |exit id=>exact VWx.here (e:=.exit id) h λF a w R hr=>wpIn_exit hr
  |ret=>exact VWx.here (e:=.ret) h λF a w R hr=>wpIn_ret hr
  |seq a b=>
   refine VWx.seq ((ih m (by omega) _ _ _ _ _ _ _ h).mono λe σ T D hq=> ?_)
   cases e<;>first
    |exact ih m (by omega) _ _ _ _ _ _ _ hq
    |exact hq
  |cond c x y=>
   simp only at h
   split at h
   ·rename_i b hb
    refine VWx.cond hb (λhbt=> ?_) (λhbf=> ?_)
    ·subst hbt;exact ih m (by omega) _ _ _ _ _ _ _ h
    ·subst hbf;exact ih m (by omega) _ _ _ _ _ _ _ h
   ·exact h.elim
  |block id c=>
   simp only at h
   split at h
   ·rename_i W c' hW
    obtain ⟨rfl,h⟩:=h
    exact hL _ _ _ hW rd ro σ T D K h
   ·exact VWx.block (ih m (by omega) _ _ _ _ _ _ _ h)
  |scope c=>exact VWx.scope (ih m (by omega) _ _ _ _ _ _ _ h)
  |loop c=>
   refine VWx.loop (λk σ T D=>k≤m+1∧vx P G C F k L rd ro (.loop c) σ T D K) (m+1) ⟨le_refl _,by unfold vx;exact h⟩ ?_
   rintro k σ T D ⟨hk,h⟩
   cases k with
   |zero=>simp only [vx] at h;exact h.elim
   |succ j=>
    unfold vx at h
    refine (ih j (by omega) _ _ _ _ _ _ _ h).mono λe σ T D hq=> ?_
    cases e<;>first
     |exact ⟨j,by omega,by omega,hq⟩
     |exact hq
  |region id ops d=>
   simp only at h
   split at h
   ·rename_i W c' hW
    obtain ⟨rfl,h⟩:=h
    exact hL _ _ _ hW rd ro σ T D K h
   ·cases d with
    |false=>exact q8 (Q:=K) hcal hrnd h
    |true=>exact K4 (Q:=K) hcal hrnd hm h
  |rangeFunc f ps a b=>
   simp only at h
   split at h
   ·rename_i fi first ca hf
    cases rd with
    |none=>
     obtain ⟨fn,h1,h2,h3,h4⟩:=hcal _ _ _ _ _ h
     exact VWx.range0 hf h1 h2 h3 h4
    |some i0=>
     simp only at h
     split at h
     ·rename_i hlp
      obtain ⟨fn,h1,h2,h3,h4⟩:=hcal _ _ _ _ _ h
      exact VWx.range1 hf hlp h1 h2 h3 h4
     ·exact h.elim
   ·exact h.elim
  |label l=>exact VWx.here (e:=.normal) h λF a w R hr=>wpIn_label hr
  |goto l=>exact h.elim
  |refuse why=>exact h.elim
theorem zZ {C:FuncId→Option be}(hm:P.follows .mixedOrders=true)(hB:eQ P=true)(hC:bu P G C){F:gD}{n:Nat}{L:Nat→Option (bW × Code)}(hL:dy P G L){ro:Nat}{f:FuncId}{xs:List TV}{T:VT}{K:TV→VT→Prop}
  (h:ax P G C F n L ro f xs T K):VCx P G ro f xs T K:=by
 unfold ax at h
 split at h
 ·rename_i fn hf
  split at h
  ·rename_i c hc
   exact VCx.enter hf hc (uA hm hB hC n n (le_refl _) _ _ hL _ _ _ _ _ _ _ h)
  ·exact h.elim
 ·exact h.elim
theorem Cf {C:FuncId→Option be}(hm:P.follows .mixedOrders=true)(hB:eQ P=true)(hC:bu P G C){n:Nat}{L:Nat→Option (bW × Code)}(hL:dy P G L){ro:Nat}{f:FuncId}{xs:List TV}{T:VT}{K:TV→VT→Prop}
 (h:Gc P G C n L ro f xs T K):VCx P G ro f xs T K:=zZ hm hB hC hL (F:=aR) h
theorem ai:bu P G λ_=>none:=λ_ _ h=>by cases h
end
section
variable {P:Program}{G:aP}
def fm (id:Nat):Code→Option Code
 | .block i c=>bif beq i id then some (.block i c) else fm id c
 | .seq a b=>match fm id a with
  |some c=>some c
  |none=>fm id b
 | .cond _ a b=>match fm id a with
  |some c=>some c
  |none=>fm id b
 | .loop c=>fm id c
 | .scope c=>fm id c
 | .rangeFunc _ _ a b=>match fm id a with
  |some c=>some c
  |none=>fm id b
 |_=>none
def qm (P:Program)(f:FuncId):Code:=match P.funcs[f]? with
 |some fn=>fn.body.getD .skip
 |none=>.skip
def aE (P:Program)(f:FuncId)(id:Nat):Code:=(fm id (qm P f)).getD .skip
def xe:Code→Code
 | .block _ (.loop c)=>c
 |_=>.skip
def cC (P:Program)(f:FuncId)(id:Nat):Code:=xe (aE P f id)
def ml (id:Nat):Code→Bool
 | .block i (.loop _)=>beq i id
 |_=>false
theorem yS {id:Nat}{c:Code}(h:ml id c=true):c=.block id (.loop (xe c)):=by
 unfold ml at h
 split at h
 ·rw [eq_of_beq_eq_true h];rfl
 ·cases h
def LEs:List TV→List (Option TV)→Prop
 |[],[]=>True
 |_::l,none::m=>LEs l m
 |x::l,some y::m=>x=y∧LEs l m
 |_,_=>False
def mm (m:List (Option TV)):List TV:=m.map λo=>o.getD .dead
theorem LEs.ok {g:Gh}{w:World}:∀{σ:List TV} {m:List (Option TV)} {us:List Value},LEs σ m→VRs g w σ us→VRs g w (mm m) us
 |[],[],us,_,h=>h
 |x::l,none::m,us,k,h=>by
  match us,h with
  |[],h=>have:=h.1;simp at this
  |u::us,h=>
   have h1:VRs g w l us:=⟨by have:=h.1;simpa using this,λj y v hy hv=>h.2 (j+1) y v (by simpa using hy) (by simpa using hv)⟩
   exact VRs.cons (.dead u) (LEs.ok (show LEs l m from k) h1)
 |x::l,some y::m,us,k,h=>by
  obtain ⟨rfl,k⟩:=k
  match us,h with
  |[],h=>have:=h.1;simp at this
  |u::us,h=>
   have h1:VRs g w l us:=⟨by have:=h.1;simpa using this,λj y v hy hv=>h.2 (j+1) y v (by simpa using hy) (by simpa using hv)⟩
   exact VRs.cons (h.2 0 x u rfl rfl) (LEs.ok k h1)
 |[],_::_,_,k,_=>k.elim
 |x::l,[],_,k,_=>k.elim
theorem VWx.sub {rd:Option Nat}{ro:Nat}{c:Code}{σ σ':List TV}{T:VT}{D:List Nat}{Q:KX}(h:VWx P G rd ro c σ' T D Q)(hs:∀g w us,VRs g w σ us→VRs g w σ' us):VWx P G rd ro c σ T D Q:=
 λr g w a rw0 hG hσ=>h r g w a rw0 hG (hs _ _ _ hσ)
def Iv {ι:Type}(μ:ι→Nat)(sl:ι→List (Option TV))(tt:ι→VT)(Inv:ι→Prop)(N M:Nat)(s:ι)(σ:List TV)(T:VT):Prop:=
 ∃s',Inv s'∧μ s' <μ s∧((T=tt s'∧LEs σ (sl s'))∨(T.keep N M=tt s'∧LEs (aw (ap N) (ap M) σ) (sl s')))
theorem VWx.loopS {ι:Type}{rd:Option Nat}{c:Code}{D:List Nat}{Q:KX}(μ:ι→Nat)(sl:ι→List (Option TV))(tt:ι→VT)(Inv:ι→Prop)(N M:Nat)(hN:∀s,Inv s→(tt s).objs.length≤N∧(tt s).tails.length≤M)(hD:∀id∈D,id<N)
    (hbody:∀s,Inv s→VWx P G rd 0 c (mm (sl s)) (tt s) D (qZ (λσ T D'=>D'=D∧Iv μ sl tt Inv N M s σ T) Q)):
    ∀s,Inv s→VWx P G rd 0 (.loop c) (mm (sl s)) (tt s) D Q:=by
  intro s0 hs0
  refine VWx.loop (λn σ T D'=>∃s,Inv s∧μ s=n∧σ=mm (sl s)∧T=tt s∧D'=D) (μ s0) ⟨s0,hs0,rfl,rfl,rfl,rfl⟩ ?_
  rintro n σ T D' ⟨s,hs,rfl,rfl,rfl,rfl⟩
  intro r g w a rw0 hG hσ hd hDs hrd
  refine wpIn_mono (hbody s hs r g w a rw0 hG hσ hd hDs hrd) ?_
  rintro e a' w' ⟨g',σ',T',D'',hq,e',r',hσ',hd',hDs',hx⟩
  cases e<;>first
    |exact ⟨g',σ',T',D'',hq,e',r',hσ',hd',hDs',hx⟩
    | (obtain ⟨rfl,s',hs',hlt,⟨rfl,hle⟩ | ⟨hT,hle⟩⟩:=hq
       · exact ⟨g',_,_,_,⟨_,hlt,s',hs',rfl,rfl,rfl,rfl⟩,e',r',hle.ok hσ',hd',hDs',hx⟩
       · have hdk:∀id∈D'',(g'.keep N M).obj id=g'.obj id:=λid hid=>by simp [Gh.keep,hD id hid]
         refine ⟨g'.keep N M,_,tt s',D'',⟨_,hlt,s',hs',rfl,rfl,rfl,rfl⟩,e'.keep rw0 (hN s hs).1 (hN s hs).2,hT▸r'.keep N M,hle.ok (hσ'.ren (vN g' N M)),?_,?_,?_⟩
         · rw [hd']
           apply List.map_congr_left
           intro id hid
           simp only [mk,hdk id hid]
         · intro id hid
           rw [hdk id hid];exact hDs' id hid
         · refine ⟨?_,λi hi=>absurd hi (not_lt_zero i),λi o b hi=>absurd hi (not_lt_zero i)⟩
           rw [←hT]
           simp only [VT.keep,length_map,length_take]
           have h1:=hx.len
           have h2:=(hN s hs).1
           omega)
theorem VWx.blockS {ι:Type}{rd:Option Nat}{f:FuncId}{id:Nat}{D:List Nat}{Q:KX}(hc:ml id (aE P f id)=true)(μ:ι→Nat)(sl:ι→List (Option TV))(tt:ι→VT)(Inv:ι→Prop)(N M:Nat)(hN:∀s,Inv s→(tt s).objs.length≤N∧(tt s).tails.length≤M)(hD:∀id∈D,id<N)
  (hbody:∀s,Inv s→VWx P G rd 0 (cC P f id) (mm (sl s)) (tt s) D (qZ (λσ T D'=>D'=D∧Iv μ sl tt Inv N M s σ T) (sK id Q))):
  ∀s,Inv s→VWx P G rd 0 (aE P f id) (mm (sl s)) (tt s) D Q:=by
 intro s hs
 rw [yS hc]
 exact VWx.block (VWx.loopS μ sl tt Inv N M hN hD hbody s hs)
def eJ (G:aP):Prop:=∀n cs,G n=some cs→∃vs:List Value,cs=vs.map .val
theorem GOk.sub {g g':Gh}{w:World}{f h:Nat→Option Nat}(hv:eJ G)(k:GOk G g w)(r:rV g g' f h):GOk G g' w:=λn cs hn=>by
 obtain ⟨vs,rfl⟩:=hv n cs hn
 have h1:=(k n _ hn).ren r
 simp only [TV.ren,zG] at h1
 exact h1
theorem VCx.lift {ro:Nat}{f:FuncId}{xs ys:List TV}{T:VT}{Q:TV→VT→Prop}(is ks:List Nat)(hv:eJ G)(hi:is.Nodup)(hk:ks.Nodup)(hil:∀i∈is,∃o,T.objs[i]?=some o∧o.live=true)(hkl:∀k∈ks,k<T.tails.length)(hro:∀i∈is,ro≤i)
  (hx:aw (aL is) (aL ks) ys=xs) (h:VCx P G 0 f xs (T.give is ks) Q) (hlen:∀x T',Q x T'→is.length≤T'.objs.length∧ks.length≤T'.tails.length):
  VCx P G ro f ys T λy T'' =>∃x T',Q x T'∧y=x.ren (aJ T.objs.length is) (aJ T.tails.length ks)∧T'' =T.back is ks T':=by
 intro g w us rw0 hG hxs
 have hargs:=hxs.ren (yF g T is ks)
 rw [hx] at hargs
 have hil':∀i∈is,i<T.objs.length:=λi h=>by obtain ⟨o,h1,_⟩:=hil i h;exact (List.getElem?_eq_some_iff.1 h1).1
 have r1:=rw0.give hi hk hil' hkl
 refine Calls.mono (h _ w _ r1 (hG.sub hv (yF g T is ks)) hargs) ?_
 rintro e w' ⟨v,x,gc,T',rfl,hq,e',r',hv',_⟩
 obtain ⟨l1,l2⟩:=hlen x T' hq
 obtain ⟨g',ev,rb,rn⟩:=HW rw0 hi hk hil hkl e' r' l1 l2
 obtain ⟨b1,b2,b3,b4⟩:=mf is T.objs (T'.objs.map (VO.ren (aJ T.objs.length is) (aJ T.tails.length ks))) hi hil' (by simpa using l1)
 refine ⟨v,_,g',_,rfl,⟨x,T',hq,rfl,rfl⟩,ev,rb,hv'.ren rn,?_,?_,?_⟩
 ·show T.objs.length≤(bJ T.objs is _).length
  rw [b1];omega
 ·intro i hir hil2
  exact b2 i hil2 λhm=>absurd (hro i hm) (by omega)
 ·intro i o b hir ho hl hb
  have hnm:i∉is:=λhm=>absurd (hro i hm) (by omega)
  exact e'.frb b (.inr (.inl ⟨i,o,ho,hl,hnm,hb⟩))
theorem VCx.liftPure {ro:Nat}{f:FuncId}{xs ys:List TV}{T:VT}{y:TV}{K:TV→VT→Prop}(hv:eJ G)(h:VCx P G 0 f xs ⟨[],[]⟩ λx T'=>x=y∧T'=⟨[],[]⟩)(hx:aw (aL []) (aL []) ys=xs)(hy:∀f h,y.ren f h=y)(k:K y T):VCx P G ro f ys T K:=by
 refine (VCx.lift (T:=T) [] [] hv nodup_nil nodup_nil (by simp) (by simp) (by simp) hx (by rw [VT.give_nil];exact h) (λ_ _ _=>⟨zero_le _,zero_le _⟩)).mono ?_
 rintro z T' ⟨x,T'',⟨rfl,rfl⟩,rfl,rfl⟩
 have hb:T.back [] [] ⟨[],[]⟩=T:=by rw [VT.back_nil];cases T;simp
 rw [hy,hb];exact k
def aT:List (FuncId × be)→FuncId→Option be
 |[],_=>none
 | (f,W)::l,g=>bif beq f g then some W else aT l g
theorem aZ:∀{l:List (FuncId × be)},(∀p∈l,∀ro xs T K,p.2 ro xs T K→VCx P G ro p.1 xs T K)→bu P G (aT l)
 |[],_=>λ_ _ h=>by cases h
 | (f,W)::l,h=>λg W' hW=>by
  simp only [aT] at hW
  cases hb:beq f g with
  |true=>
   rw [hb] at hW
   injection hW with hW;subst hW
   have:=eq_of_beq_eq_true hb
   subst this
   exact h _ mem_cons_self
  |false=>
   rw [hb] at hW
   exact aZ (λp hp=>h p (mem_cons_of_mem _ hp)) g W' hW
theorem am {b:Bool}{X Y:Prop}(ht:b=true→X)(hf:b=false→Y):cond b X Y:=by
 cases b
 ·exact hf rfl
 ·exact ht rfl
theorem VCx.keepQ {f:FuncId}{xs:List TV}{T:VT}{Q:TV→VT→Prop}(n m:Nat)(hn:T.objs.length≤n)(hm:T.tails.length≤m)(h:VCx P G 0 f xs T λx T'=>Q (x.ren (ap n) (ap m)) (T'.keep n m)):VCx P G 0 f xs T Q:=by
 intro g w us rw0 hG hx
 refine Calls.mono (h g w us rw0 hG hx) ?_
 rintro e w' ⟨v,x,g',T',he,hq,e',r',hv,hfx⟩
 refine ⟨v,_,g'.keep n m,T'.keep n m,he,hq,e'.keep rw0 hn hm,r'.keep n m,hv.ren (vN g' n m),?_,λi hi=>absurd hi (not_lt_zero i),λi o b hi=>absurd hi (not_lt_zero i)⟩
 simp only [VT.keep,length_map,length_take]
 have h1:=hfx.len
 omega
end
section
variable {P:Program}{w:World}
end
section
variable {P:Program}{w:World}{ops:Array Oper}{a:Act}{dst:Option Tmp}{ty:TypeId}{pos:String}{after:Array Edge}
end
section
variable {P:Program}
def N2:TV→Bool
 | .val _ | .ptr .. | .sl .. | .map _ | .dead=>true
 |_=>false
def pj (x:TV):TV:=if N2 x then x else .dead
def Cg (size k e:Nat)(n:Nat)(es':List (List TV))(σ:List TV):List TV:=σ.map λx=>match x with
 | .vec s es (.tail k' e')=>if s=size∧k'=k∧e'=e∧es.length=n then .vec size es' .none else .dead
 |x=>pj x
theorem Aa {g:Gh}{w:World}:∀{xs:List TV} {us us':List Value},xs.map cL=us.map some→VRs g w xs us'→us'=us
 |[],[],us',_,k=>List.eq_nil_of_length_eq_zero k.1
 |[],_::_,_,h,_=>by simp at h
 |_::_,[],_,h,_=>by simp at h
 |x::xs,u::us,us',h,k=>by
  simp only [map_cons,List.cons.injEq] at h
  cases us' with
  |nil=>have:=k.1;simp at this
  |cons u' us'=>
   have h1:=cE h.1 (k.2 0 x u' rfl rfl)
   have h2:=Aa (us':=us') h.2 ⟨by have:=k.1;simpa using this,λj x u hx hu=>k.2 (j+1) x u (by simpa using hx) (by simpa using hu)⟩
   rw [h1,h2]
end
section
open Go.ChangeShapes Go.WideShapes Go.ChangeAt Go.RowKit Go.Joins Go.Deep
def lM (w:World):Gh:=⟨λ_=>none,λb o=>(w.cell? ⟨b,o,none⟩).isSome=true,λb=>b<w.heap.size,λ_=>none⟩
theorem Qh (w:World):RW (lM w) ⟨[],[]⟩ w:=by
 refine ⟨(λid o h=>by simp at h),(λi j oi oj b h=>by simp at h),(λ_ _=>rfl),(λ_ _ h=>h),(λ_ h=>h),(λk p h=>by simp at h),(λ_ _=>rfl),(λi j x y b h=>nomatch h),(λi oi b k x h=>by simp at h),(λk x h=>nomatch h),(λk x h=>nomatch h),(λk x h=>nomatch h)⟩
section
variable {H:Type}{enc:TypeId × Value→H}{P:Program}{w:World}{base:Nat}{spare:Nat→Bool}{held:Bool}
end
end
section
open Go.ChangeShapes Go.WideShapes Go.ChangeAt Go.RowKit Go.Joins Go.Deep
def iz (x:TV)(_:VT):Prop:=match x with
 | .val (.bool b)=>cond b True False
 |_=>False
theorem VCx.topK {P:Program}{G:aP}{ro:Nat}{f:FuncId}{xs:List TV}{us:List Value}(h:VCx P G ro f xs ⟨[],[]⟩ iz)(w:World)(hG:GOk G (lM w) w)(hx:VRs (lM w) w xs us):
  Calls P f us.toArray w λe w'=>e=.returned (.bool true)∧Gr w w':=by
 refine (h (lM w) w us (Qh w) hG hx).mono ?_
 rintro e w' ⟨u,x,g',T',rfl,hq,ev,_,hv,_⟩
 unfold iz at hq
 split at hq
 ·rename_i b
  cases b with
  |false=>exact hq.elim
  |true=>
   rw [hv.val_inv]
   exact ⟨rfl,ev.os,ev.tape,ev.output,ev.size,λb hb=>ev.frb b hb⟩
 ·exact hq.elim
theorem VCx.trueOnly {P:Program}{G:aP}{f:FuncId}{xs:List TV}(h:VCx P G 0 f xs ⟨[],[]⟩ iz):VCx P G 0 f xs ⟨[],[]⟩ λx T'=>x=.val (.bool true)∧T'=⟨[],[]⟩:=by
 refine VCx.keepQ 0 0 (le_refl _) (le_refl _) (h.mono λx T' hx=> ?_)
 unfold iz at hx
 split at hx
 ·rename_i b
  cases b with
  |false=>exact hx.elim
  |true=>exact ⟨rfl,by simp [VT.keep]⟩
 ·exact hx.elim
def A9:be:=λ_ ys T K=>match ys with
 |[]=>K (.val (.bool true)) T
 |_::_=>False
theorem K5 {P:Program}{G:aP}(hv:eJ G){f:FuncId}(h:VCx P G 0 f [] ⟨[],[]⟩ iz):∀ro ys T K,A9 ro ys T K→VCx P G ro f ys T K:=by
 intro ro ys T K hk
 unfold A9 at hk
 split at hk
 ·exact VCx.liftPure hv h.trueOnly rfl (λ_ _=>rfl) hk
 ·exact hk.elim
def xf (P:Program)(G:aP)(C:FuncId→Option be)(f:FuncId)(xs:List TV):Prop:=Gc P G C 3000 (λ_=>none) 0 f xs ⟨[],[]⟩ iz
theorem Gq {P:Program}{G:aP}{C:FuncId→Option be}(hm:P.follows .mixedOrders=true)(hB:eQ P=true)(hC:bu P G C){f:FuncId}{xs:List TV}{X:Prop}(h:xf P G C f xs=X)(hx:X):VCx P G 0 f xs ⟨[],[]⟩ iz:=by
 have h1:xf P G C f xs:=by rw [h];exact hx
 unfold xf at h1
 exact Cf hm hB hC ag h1
attribute [irreducible] xf
section
variable {H:Type}{enc:TypeId × Value→H}{P:Program}{w:World}{base:Nat}{spare:Nat→Bool}{held:Bool}
theorem K6 {m ty:Nat}{u:Value}{y:DataW H × List MemPlace}{k:IntKind}(hk:P.underlying ty=some (.int k))(h:DataW.trod enc P w base spare held m ty [u]=some y):∃n,u=.int k n∧(Lit.int k n).wf=true:=by
 obtain ⟨n,e0,_,wn⟩:=DataW.trod_int hk h
 injection e0 with e0
 exact ⟨n,e0,wn⟩
end
end
section
variable {P:Program}{G:aP}
def xg:List Nat→List TV→Nat→Option TV
 |k::ks,v::vs,i=>bif beq k i then some v else xg ks vs i
 |_,_,_=>none
def mz (n:Nat)(keys:List Nat)(vs:List TV):List (Option TV):=(List.range n).map (xg keys vs)
def aI (n:Nat)(keys:List Nat)(vs:List TV):List TV:=mm (mz n keys vs)
def pick (keys:List Nat)(σ:List TV):List TV:=keys.map λt=>σ.getD t .dead
theorem xh (σ:List TV):∀(keys:List Nat) (i:Nat) (x:TV),xg keys (pick keys σ) i=some x→x=σ.getD i .dead
 |[],_,_,h=>by simp [xg,pick] at h
 |k::ks,i,x,h=>by
  simp only [pick,map_cons,xg] at h
  cases hb:beq k i with
  |true=>
   rw [hb] at h
   have:=eq_of_beq_eq_true hb
   subst this
   injection h with h;exact h.symm
  |false=>rw [hb] at h;exact xh σ ks i x h
theorem Ch:∀(σ:List TV) (m:List (Option TV)),m.length=σ.length→(∀(i:Nat) x,m[i]?=some (some x)→x=σ.getD i .dead)→LEs σ m
 |[],[],_,_=>trivial
 |[],_::_,h,_=>by simp at h
 |_::_,[],h,_=>by simp at h
 |x::l,none::m,h,k=>Ch l m (by simpa using h) λi y hy=>by simpa using k (i+1) y (by simpa using hy)
 |x::l,some y::m,h,k=>⟨by simpa using (k 0 y rfl).symm,Ch l m (by simpa using h) λi y hy=>by simpa using k (i+1) y (by simpa using hy)⟩
theorem od (σ:List TV)(keys:List Nat):LEs σ (mz σ.length keys (pick keys σ)):=by
 refine Ch _ _ (by simp [mz]) λi x hx=> ?_
 simp only [mz,getElem?_map,map_eq_some_iff] at hx
 obtain ⟨j,hj,hx⟩:=hx
 have e:j=i:=by
  have:=(List.getElem?_eq_some_iff.1 hj).2
  simpa using this.symm
 subst e
 exact xh σ keys j x hx
theorem K7 (f h:Nat→Option Nat)(keys:List Nat)(σ:List TV):pick keys (aw f h σ)=aw f h (pick keys σ):=by
 simp only [pick,fZ,List.map_map]
 refine List.map_congr_left λt _=> ?_
 simp only [Function.comp_apply,List.getD_eq_getElem?_getD,getElem?_map]
 cases σ[t]?<;>simp [TV.ren]
def dw (keys:List Nat)(Q:Exit→List TV→VT→List Nat→Nat→Prop):KX:=λe σ T D=>Q e (pick keys σ) T D σ.length
theorem VWx.forget {rd:Option Nat}{ro:Nat}{c:Code}{σ:List TV}{T:VT}{n:Nat}{keys:List Nat}{K:KX}{Q:Exit→List TV→VT→Prop}(h:VWx P G rd ro c σ T [] (dw keys λe vs T D m=>D= []∧m=n∧Q e vs T))
  (k:∀e vs T,Q e vs T→K e (aI n keys vs) T []):VWx P G rd ro c σ T [] K:=by
 intro r g w a rw0 hG hσ hd hD hr
 refine wpIn_mono (h r g w a rw0 hG hσ hd hD hr) ?_
 rintro e a' w' ⟨g',σ',T',D',⟨rfl,rfl,hq⟩,e',r',hσ',h⟩
 exact ⟨g',_,T',[],k _ _ _ hq,e',r',(od σ' keys).ok hσ',h⟩
def Gs {ι:Type}(n id:Nat)(μ:ι→Nat)(sl:ι→List TV)(tt:ι→VT)(Inv:ι→Prop)(N M:Nat)(s:ι)(Post:Exit→List TV→VT→Prop):Exit→List TV→VT→List Nat→Nat→Prop:=λe vs T D m=>D= []∧m=n∧match e with
 | .normal=>∃s',Inv s'∧μ s' <μ s∧((T=tt s'∧vs=sl s')∨(T.keep N M=tt s'∧aw (ap N) (ap M) vs=sl s'))
 | .exit i=>cond (beq i id) (Post .normal vs T) (Post (.exit i) vs T)
 |e=>Post e vs T
theorem dM {ι:Type}{f:FuncId}{id:Nat}(hc:ml id (aE P f id)=true)(n:Nat)(keys:List Nat)(μ:ι→Nat)(sl:ι→List TV)(tt:ι→VT)(Inv:ι→Prop)(N M:Nat)(hN:∀s,Inv s→(tt s).objs.length≤N∧(tt s).tails.length≤M)(Post:Exit→List TV→VT→Prop)
  (hbody:∀s,Inv s→VWx P G none 0 (cC P f id) (aI n keys (sl s)) (tt s) [] (dw keys (Gs n id μ sl tt Inv N M s Post))):
  ∀s,Inv s→∀K:KX,(∀e vs T,Post e vs T→K e (aI n keys vs) T [])→VWx P G none 0 (aE P f id) (aI n keys (sl s)) (tt s) [] K:=by
 intro s hs K hK
 refine VWx.forget (n:=n) (keys:=keys) (Q:=Post) ?_ hK
 refine VWx.blockS hc μ (λs=>mz n keys (sl s)) tt Inv N M hN (by simp) (λs hs=>(hbody s hs).mono λe σ T D hq=> ?_) s hs
 obtain ⟨rfl,hm,hq⟩:=hq
 cases e
 case normal=>
  refine ⟨rfl,?_⟩
  obtain ⟨s',h1,h2,h3⟩:=hq
  refine ⟨s',h1,h2,?_⟩
  rcases h3 with ⟨h3,h4⟩ | ⟨h3,h4⟩
  ·left;refine ⟨h3,?_⟩
   show LEs σ (mz n keys (sl s'))
   rw [←h4,←hm];exact od σ keys
  ·right;refine ⟨h3,?_⟩
   show LEs _ (mz n keys (sl s'))
   rw [←h4,←K7,←hm]
   have:=od (aw (ap N) (ap M) σ) keys
   rwa [show (aw (ap N) (ap M) σ).length=σ.length by rw [fZ];simp] at this
 case exit i=>
  simp only [qZ,sK]
  simp only at hq
  cases hb:beq i id<;>rw [hb] at hq
  ·exact ⟨rfl,hm,hq⟩
  ·exact ⟨rfl,hm,hq⟩
 all_goals exact ⟨rfl,hm,hq⟩
theorem VWx.adopt {rd:Option Nat}{ro:Nat}{c:Code}{σ:List TV}{T:VT}{D:List Nat}{Q:KX}(d size:Nat)(hd:σ[d]?=some (.val (.slice none 0 0)))
  (h:VWx P G rd ro c (σ.set d (.vec size [] (.tail T.tails.length 0))) {T with tails:=T.tails++ [(0,size,true)]} D Q):VWx P G rd ro c σ T D Q:=by
 intro r g w a rw0 hG hσ hdf hDs hrd
 obtain ⟨g1,e1,r1,ht⟩:=rw0.newTail size true
 obtain ⟨u,hu,hv⟩:=hσ.at hd
 have hv':=hv.val_inv
 subst hv'
 have h2:=(hσ.mono e1).set d (x:=.vec size [] (.tail T.tails.length 0)) (u:=.slice none 0 0) (.nil ⟨_,ht,le_refl _,rfl⟩)
 have h3:a.tmps.toList.set d (.slice none 0 0)=a.tmps.toList:=by
  apply List.ext_getElem?
  intro j
  rw [getElem?_set]
  split
  ·rename_i hj;subst hj;rw [hu,if_pos (List.getElem?_eq_some_iff.1 hu).1]
  ·rfl
 rw [h3] at h2
 refine wpIn_mono (h r g1 w a r1 (hG.mono e1) h2 (hdf.trans (mt e1 hDs).symm) (fR e1 hDs) (BP e1 hrd)) ?_
 rintro e a' w' ⟨g',σ',T',D',hq,e2,r',hσ',hd',hD',hx⟩
 exact ⟨g',σ',T',D',hq,e1.trans e2,r',hσ',hd',hD',⟨hx.len,λi hi hl=>hx.same i hi hl,λi o b hi ho hl hb=>hx.heap i o b hi ho hl (e1.obj i b hb)⟩⟩
def ja:List (Nat × Nat)→List TV→VT→List TV × VT
 |[],σ,T=>(σ,T)
 |p::l,σ,T=>ja l (σ.set p.1 (.vec p.2 [] (.tail T.tails.length 0))) {T with tails:=T.tails++ [(0,p.2,true)]}
def yT:List (Nat × Nat)→List TV→Prop
 |[],_=>True
 |p::l,σ=>σ[p.1]?=some (.val (.slice none 0 0))∧yT l (σ.set p.1 .dead)
def gn (n:Nat)(keys:List Nat)(ad:List (Nat × Nat))(vs0:List TV)(T0:VT)(R:KX→Prop):bW:=λrd ro σ T D K=>(rd=none∧ro=0∧D= []∧yT ad σ∧(ja ad σ T).2=T0∧beq σ.length n=true∧pick keys (ja ad σ T).1=vs0)∧R K
theorem Ab {rd:Option Nat}{ro:Nat}{c:Code}{D:List Nat}{Q:KX}:∀(ad:List (Nat × Nat)) (σ σ':List TV) (T:VT),yT ad σ'→(∀(i:Nat),σ'[i]?=some (.val (.slice none 0 0))→σ[i]?=some (.val (.slice none 0 0)))→σ.length=σ'.length→
  VWx P G rd ro c (ja ad σ T).1 (ja ad σ T).2 D Q→VWx P G rd ro c σ T D Q
 |[],_,_,_,_,_,_,h=>h
 |p::l,σ,σ',T,ho,hs,hl,h=>by
  obtain ⟨h1,h2⟩:=ho
  refine VWx.adopt p.1 p.2 (hs _ h1) (Ab l _ (σ'.set p.1 .dead) _ h2 (λi hi=> ?_) (by simpa using hl) h)
  rw [getElem?_set] at hi ⊢
  split
  ·rename_i e;subst e;rw [if_pos rfl] at hi;split at hi<;>simp at hi
  ·rename_i e;rw [if_neg e] at hi;exact hs i hi
theorem sS:∀(ad:List (Nat × Nat)) (σ:List TV) (T:VT),(ja ad σ T).1.length=σ.length
 |[],_,_=>rfl
 |p::l,σ,T=>by rw [ja,sS l];simp
theorem cd {c:Code}{n:Nat}{keys:List Nat}{ad:List (Nat × Nat)}{vs0:List TV}{T0:VT}{R:KX→Prop}(h:∀K,R K→VWx P G none 0 c (aI n keys vs0) T0 [] K):
  ∀rd ro σ T D K,gn n keys ad vs0 T0 R rd ro σ T D K→VWx P G rd ro c σ T D K:=by
 rintro rd ro σ T D K ⟨⟨rfl,rfl,rfl,ha,rfl,hn,rfl⟩,hR⟩
 obtain rfl:=eq_of_beq_eq_true hn
 refine Ab ad σ σ T ha (λ_ h=>h) rfl ((h K hR).sub λg w us hu=> ?_)
 have:=(od (ja ad σ T).1 keys).ok hu
 rwa [sS] at this
def bX:List (Nat × bW × Code)→Nat→Option (bW × Code)
 |[],_=>none
 | (i,W,c)::l,j=>bif beq i j then some (W,c) else bX l j
theorem bO:∀{l:List (Nat × bW × Code)},(∀p∈l,∀rd ro σ T D K,p.2.1 rd ro σ T D K→VWx P G rd ro p.2.2 σ T D K)→dy P G (bX l)
 |[],_=>λ_ _ _ h=>by cases h
 | (i,W,c)::l,h=>λj W' c' hW=>by
  simp only [bX] at hW
  cases hb:beq i j with
  |true=>
   rw [hb] at hW
   injection hW with hW;injection hW with h1 h2;subst h1 h2
   exact h _ mem_cons_self
  |false=>
   rw [hb] at hW
   exact bO (λp hp=>h p (mem_cons_of_mem _ hp)) j W' c' hW
def Iw (xs:List TV)(y:TV):be:=λ_ ys T K=>ys=xs∧K y T
theorem Ix {f:FuncId}{xs:List TV}{y:TV}(hv:eJ G)(hx:aw (aL []) (aL []) xs=xs)(hy:∀f h,y.ren f h=y)(h:VCx P G 0 f xs ⟨[],[]⟩ λx T'=>x=y∧T'=⟨[],[]⟩):
  ∀ro ys T K,Iw xs y ro ys T K→VCx P G ro f ys T K:=by
 rintro ro ys T K ⟨rfl,hk⟩
 exact VCx.liftPure hv h hx hy hk
theorem bU {C:FuncId→Option be}(hm:P.follows .mixedOrders=true)(hB:eQ P=true)(hC:bu P G C){F:gD}{n:Nat}{L:Nat→Option (bW × Code)}(hL:dy P G L){rd:Option Nat}{ro:Nat}{c:Code}{σ:List TV}{T:VT}{D:List Nat}{K:KX}{X:Prop}
 (h:vx P G C F n L rd ro c σ T D K=X) (hx:X):VWx P G rd ro c σ T D K:=uA hm hB hC n n (le_refl _) F L hL _ _ _ _ _ _ _ (by rw [h];exact hx)
theorem aj {C:FuncId→Option be}(hm:P.follows .mixedOrders=true)(hB:eQ P=true)(hC:bu P G C){F:gD}{n:Nat}{L:Nat→Option (bW × Code)}(hL:dy P G L){ro:Nat}{f:FuncId}{xs:List TV}{T:VT}{K:TV→VT→Prop}{X:Prop}
 (h:ax P G C F n L ro f xs T K=X) (hx:X):VCx P G ro f xs T K:=zZ hm hB hC hL (by rw [h];exact hx)
def MM:List (Nat × TV)→Nat→Option (TV × Option VT)
 |[],_=>none
 | (t,x)::l,s=>bif beq t s then some (x,none) else MM l s
def VN (l:List (Nat × TV)):gD:=λo _ _=>match o.dst with
 |some d=>MM l d
 |none=>none
theorem Gt {t e:TypeId}{inf:TypeInfo}{es:List (List TV)}{tok:Tok}{k:IntKind}{z:Int}{cs:List TV}(ht:P.underlying t=some (.slice e))(hi:P.info? e=some inf)(h0:0≤z)(he:es[z.toNat]?=some cs):
  fP P t (.vec inf.size es tok) (.val (.int k z))=some (.elt cs):=by
 simp [fP,ht,hi,h0,he]
theorem fp {t e:TypeId}{x i:Operand}{l:List (Nat × TV)}{inf:TypeInfo}{es:List (List TV)}{tok:Tok}{k:IntKind}{z:Int}{cs:List TV}(ht:P.underlying t=some (.slice e))(hi:P.info? e=some inf)
  (hx:aA G l x=.vec inf.size es tok) (hz:aA G l i=.val (.int k z)) (h0:0≤z) (he:es[z.toNat]?=some cs):aS P G (.indexAddr t x i) l (.elt cs):=by
 refine ⟨?_⟩
 simp only [aW,hx,hz,nB,Gt ht hi h0 he]
end
section
variable {P:Program}{G:aP}
def ea:TV→TV
 | .vec s es _=>.vec s es .none
 |x=>x
theorem nk {g:Gh}{w:World}{x:TV}{u:Value}(h:VR g w x u):VR g w (ea x) u:=by
 cases x with
 |vec s es t=>
  rcases h.vec_inv with ⟨rfl,rfl,h1⟩ | ⟨b,o,c,us,rfl,f1,f2,f3,f4,f5,f6,f7,f8⟩ | ⟨a,rfl,rfl,_⟩
  rotate_left 2
  ·exact .odd a trivial
  ·exact .nil trivial
  ·exact .mk_vec rfl f1 f2 f3 trivial f5 f6 f7 f8
 |_=>exact h
theorem Ci {t e:TypeId}{x i:Operand}{l:List (Nat × TV)}{inf:TypeInfo}{es:List (List TV)}{tok:Tok}{k:IntKind}{z:Int}(ht:P.underlying t=some (.slice e))(hi:P.info? e=some inf)
  (hx:aA G l x=.vec inf.size es tok) (hz:aA G l i=.val (.int k z)) (h0:0≤z) (he:z.toNat≤es.length):aS P G (.slice t x none (some i) none) l (.vec inf.size (es.take z.toNat) .none):=by
 refine ⟨?_⟩
 simp [aW,hx,hz,gB,fw,pY,nP,ht,hi,dS,ek,h0,he]
theorem Cj {t e:TypeId}{x i:Operand}{l:List (Nat × TV)}{inf:TypeInfo}{es:List (List TV)}{tok:Tok}{k:IntKind}{z:Int}(ht:P.underlying t=some (.slice e))(hi:P.info? e=some inf)
  (hx:aA G l x=.vec inf.size es tok) (hz:aA G l i=.val (.int k z)) (h0:0≤z) (he:z.toNat≤es.length):aS P G (.slice t x (some i) none none) l (.vec inf.size (es.drop z.toNat) tok):=by
 refine ⟨?_⟩
 simp [aW,hx,hz,gB,fw,pY,nP,ht,hi,dS,ek,h0,he]
theorem fq {ro:Nat}{T T1:VT}{t e tx:TypeId}{s x:Operand}{l:List (Nat × TV)}{inf:TypeInfo}{z:Value}{es es2:List (List TV)}{k n:Nat}{bn:Bool}(ht:P.underlying t=some (.slice e))(hi:P.info? e=some inf)(hz:inf.zero=some z)(hzs:z.cells.size=inf.size)(hp:0<inf.size)
  (hsl:fD (P.underlying tx)=true) (hs:cR T inf.size (aA G l s)=some (es,k,n,bn,T1)) (hx:jr inf.size (aA G l x)=some es2) (hb:(es.length+es2.length)*(inf.bytes+1)≤140737488355328):
  bp P G ro T (.call ⟨.builtin .append,#[s,x],#[t,tx]⟩) l (.vec inf.size (es++es2) (.tail k (n+es2.length))) {T1 with tails:=T1.tails.set k (n+es2.length,inf.size,bn)}:=by
 refine .old rfl ?_
 have h1:ir P T t tx (aA G l s) (aA G l x)=some (.vec inf.size (es++es2) (.tail k (n+es2.length)),{T1 with tails:=T1.tails.set k (n+es2.length,inf.size,bn)}):=by
  simp [ir,ht,hi,hz,hs,hx,hzs,hp,hsl,hb]
 simp [uY,cM,gv,nR,h1]
end
section
variable {P:Program}{G:aP}
theorem VRs.loose {g:Gh}{w:World}{xs:List TV}{us:List Value}(h:VRs g w xs us):VRs g w (xs.map ea) us:=by
 refine ⟨by simpa using h.1,λj x u hx hu=> ?_⟩
 simp only [getElem?_map,map_eq_some_iff] at hx
 obtain ⟨y,hy,rfl⟩:=hx
 exact nk (h.2 j y u hy hu)
theorem VCx.loose {ro:Nat}{f:FuncId}{xs:List TV}{T:VT}{Q:TV→VT→Prop}(h:VCx P G ro f (xs.map ea) T Q):VCx P G ro f xs T Q:=λg w us r hG hx=>h g w us r hG hx.loose
theorem VCx.loosePure {ro:Nat}{f:FuncId}{xs ys:List TV}{T:VT}{y:TV}{K:TV→VT→Prop}(hv:eJ G)(h:VCx P G 0 f xs ⟨[],[]⟩ λx T'=>x=y∧T'=⟨[],[]⟩)(hy:ys.map ea=xs)(hx:aw (aL []) (aL []) xs=xs)(hr:∀f h,y.ren f h=y)(k:K y T):VCx P G ro f ys T K:=
 VCx.loose (VCx.liftPure hv h (by rw [hy];exact hx) hr k)
theorem bg {b:Bool}{X Y:Prop}(h:b=false)(k:Y):cond b X Y:=by subst h;exact k
theorem bd {b:Bool}{X Y:Prop}(h:b=true)(k:X):cond b X Y:=by subst h;exact k
end
section
variable {P:Program}{G:aP}{g:Gh}{T:VT}{w:World}
theorem nl (r:RW g T w){id size off n:Nat}{es:List (List TV)}{u:Value}(h:bL T size (.row size id off n)=some es)(hx:VR g w (.row size id off n) u):
  ∃g',Evo g w g' w∧RW g' (T.kill id) w∧VR g' w (.vec size es .none) u:=by
 simp only [bL] at h
 split at h
 ·rename_i cs hid
  cases hb:(beq size size&&ble ((off+n)*size) cs.length) with
  |false=>rw [hb] at h;cases h
  |true=>
   rw [hb] at h;injection h with h;subst h
   simp only [and_eq_true] at hb
   have hle:=le_of_ble_eq_true hb.2
   obtain ⟨b,c,h1,h2,h3,h4,h5,rfl⟩:=hx.row_inv
   obtain ⟨b',q1,⟨us,t,q2,q3,q4,q5⟩,q6,q7⟩:=r.obj id _ hid rfl
   rw [h1] at q1;injection q1 with q1;subst q1
   rw [Nat.add_mul] at hle
   have hl:((cs.drop (off*size)).take (n*size)).length=n*size:=by simp;omega
   obtain ⟨k1,k2,k3⟩:=f9 hl
   have hv:=(q4.drop (off*size)).take (n*size)
   have hl2:(((us.take cs.length).drop (off*size)).take (n*size)).length=n*size:=by simp;omega
   have hcell:∀(j:Nat) v,(((us.take cs.length).drop (off*size)).take (n*size))[j]?=some v→w.cell? ⟨b,off*size+j,none⟩=some v:=λj v hv=>by
    rw [World.cell?,q2]
    simp only [List.getElem?_take,List.getElem?_drop] at hv
    split at hv
    ·split at hv
     ·simpa using hv
     ·cases hv
    ·cases hv
   have fr:=qR r hid rfl h1
   have e:=Evo.addSt (g:=g) (w:=w) (S:=λo=>off*size≤o∧o<off*size+n*size) q6
   refine ⟨_,e,(r.kill hid rfl h1).addSt q6 fr.obj (λk x o hx _ hin=>fr.tl k x hx (.inl ⟨o,hin⟩)) (λo ho=> ?_),?_⟩
   ·have hj:o-off*size<(((us.take cs.length).drop (off*size)).take (n*size)).length:=by rw [hl2];omega
    have:=hcell (o-off*size) _ (getElem?_eq_getElem hj)
    rw [show off*size+(o-off*size)=o by omega] at this
    rw [this];rfl
   ·refine .mk_vec (us:=((us.take cs.length).drop (off*size)).take (n*size)) k1.symm h3 h4 k2 trivial (by rw [k3];exact hv.mono e) (λj hj=>.inr ⟨rfl,?_⟩) hcell (λu hu=>q5 u (List.mem_of_mem_drop (List.mem_of_mem_take hu)))
    rw [k3,hl] at hj
    omega
 ·cases h
def Gu (x:TV)(T:VT):Option (Nat × List (List TV)):=match x with
 | .row size id off n=>(bL T size (.row size id off n)).map λes=>(size,es)
 |_=>none
end
section
variable {P:Program}{G:aP}
def Ck (T:VT):List (Nat × TV × Option (VT→VT))→Nat→Option (TV × Option VT)
 |[],_=>none
 | (t,y,g)::l,s=>bif beq t s then some (y,match g with | some g=>some (g T) | none=>none) else Ck T l s
def bB (l:List (Nat × TV × Option (VT→VT))):gD:=λo _ T=>match o.op with
 | .store _ (.tmp a) _=>Ck T l (500000+a)
 |_=>match o.dst with
  |some d=>Ck T l d
  |none=>none
theorem sT {t e:TypeId}{x i:Operand}{l:List (Nat × TV)}{inf:TypeInfo}{id off n:Nat}{k:IntKind}{z:Int}(ht:P.underlying t=some (.slice e))(hi:P.info? e=some inf)
  (hx:aA G l x=.row inf.size id off n) (hz:aA G l i=.val (.int k z)) (h0:0≤z) (h1:z<n):aS P G (.indexAddr t x i) l (.ptr id (off*inf.size+z.toNat*inf.size)):=by
 refine ⟨?_⟩
 simp [aW,hx,hz,nB,ht,hi,h0,h1,beq_refl]
theorem Cl {ro:Nat}{T:VT}{t:TypeId}{a x:Operand}{l:List (Nat × TV)}{inf:TypeInfo}{id off:Nat}{cs new:List TV}(hi:P.info? t=some inf)
  (ha:aA G l a=.ptr id off) (hx:bR (aA G l x)=some new) (ho:T.objs[id]?=some (.row cs)) (hn:inf.size=new.length) (hle:off+new.length≤cs.length) (hc:new.all fQ=true) (hro:ro≤id):
  bp P G ro T (.store t a x) l (.val undef) {T with objs:=T.objs.set id (.row (bs cs off new))}:=by
 refine .mk ?_
 have h1:aW P (.store t a x) (aA G l)=none:=by simp [aW,cN]
 have h2:aY P T (.store t a x) (aA G l)=none:=by simp [aY,cM]
 have h3:gR P ro T (.store t a x) (aA G l)=some (.val undef,{T with objs:=T.objs.set id (.row (bs cs off new))}):=by
  simp only [gR,nC,ha,ho,hx,hi]
  rw [hn,beq_refl,ble_eq_true_of_le hle,hc,ble_eq_true_of_le hro];rfl
 simp only [dZ,h1,h2,h3]
theorem Gv {ro:Nat}{T:VT}{t e tx:TypeId}{s x:Operand}{l:List (Nat × TV)}{inf:TypeInfo}{z:Value}{q0:List TV}{qs:List (List TV)}{tok:Tok}(ht:P.underlying t=some (.slice e))(hi:P.info? e=some inf)(hz:inf.zero=some z)(hzs:z.cells.size=inf.size)(hz1:z.cells.toList.all Value.oneCell'=true)
  (hsl:fD (P.underlying tx)=true) (hs:aA G l s=.vec inf.size [] .full) (hx:aA G l x=.vec inf.size (q0::qs) tok) (hb:(q0::qs).length*(inf.bytes+1)≤140737488355328):
  bp P G ro T (.call ⟨.builtin .append,#[s,x],#[t,tx]⟩) l (.row inf.size T.objs.length 0 (q0::qs).length) (T.newRow (q0::qs).flatten):=by
 refine .mk ?_
 have h1:aW P (.call ⟨.builtin .append,#[s,x],#[t,tx]⟩) (aA G l)=none:=by simp [aW,cN]
 have h2:aY P T (.call ⟨.builtin .append,#[s,x],#[t,tx]⟩) (aA G l)=none:=by simp [aY,cM,gv]
 have hr:bL T inf.size (.vec inf.size (q0::qs) tok)=some (q0::qs):=by simp [bL,beq_refl]
 have h4:jx P T t tx (.vec inf.size [] .full) (.vec inf.size (q0::qs) tok)=none:=by simp [jx,ht]
 have h3:ju P ro T t tx (.vec inf.size [] .full) (.vec inf.size (q0::qs) tok)=some (.row inf.size T.objs.length 0 (q0::qs).length,T.newRow (q0::qs).flatten):=by
  unfold ju
  simp only [ht,hi,hz,hr,hzs,decide_true,hz1,hsl,Bool.and_self,cond_true,beq_refl,length_nil,zero_add,List.flatten_nil,List.nil_append,ble_eq_true_of_le hb]
 have h5:oY P ro T t tx (.vec inf.size [] .full) (.vec inf.size (q0::qs) tok)=none:=rfl
 simp only [dZ,h1,h2,gR,hs,hx,hsl,h4,h5,h3,cond_true]
end
section
variable {P:Program}{G:aP}
theorem qn (size:Nat):∀{es:List (List TV)},(∀e∈es,e.length=size)→dh size es.length es.flatten=es
 |[],_=>rfl
 |e::es,h=>by
  have h1:e.length=size:=h e mem_cons_self
  have h2:=qn size (es:=es) λe he=>h e (mem_cons_of_mem _ he)
  simp only [length_cons,dh,List.flatten_cons]
  rw [List.take_left' h1,List.drop_left' h1,h2]
theorem jC {T:VT}{size id:Nat}{es:List (List TV)}(ho:T.objs[id]?=some (.row es.flatten))(hz:∀e∈es,e.length=size):bL T size (.row size id 0 es.length)=some es:=by
 have hl:=cf hz
 have e1:((es.flatten.drop (0*size)).take (es.length*size))=es.flatten:=by
  rw [Nat.zero_mul,List.drop_zero,←hl,take_length]
 simp only [bL,ho]
 rw [e1,qn size hz,beq_refl,zero_add,hl,ble_eq_true_of_le (le_refl _)]
 rfl
theorem VCx.freeze {f:FuncId}{xs:List TV}{T:VT}{size:Nat}{es:List (List TV)}{Q:VT→Prop}(h:VCx P G 0 f xs T λx T'=>∃id off n,x=.row size id off n∧bL T' size (.row size id off n)=some es∧Q (T'.kill id)):
  VCx P G 0 f xs T λx T'=>x=.vec size es .none∧Q T':=by
 intro g w us rw0 hG hx
 refine Calls.mono (h g w us rw0 hG hx) ?_
 rintro e w' ⟨v,x,g',T',he,⟨id,off,n,rfl,h1,hq⟩,e',r',hv,hfx⟩
 obtain ⟨g2,e2,r2,v2⟩:=nl r' h1 hv
 refine ⟨v,_,g2,_,he,⟨rfl,hq⟩,e'.trans e2,r2,v2,⟨?_,λi hi=>absurd hi (not_lt_zero i),λi o b hi=>absurd hi (not_lt_zero i)⟩⟩
 have:=hfx.len
 simp only [VT.kill,List.length_set];exact this
end
section
variable {P:Program}{G:aP}{g:Gh}{T:VT}{w:World}
theorem RW.objLeAt (r:RW g T w){i:Nat}{o o':VO}(hi:T.objs[i]?=some o)(hl:o.live=true)(_hl':o'.live=true)(ho:∀b,g.obj i=some b→OR g w b o→OR g w b o'):RW g {T with objs:=T.objs.set i o' } w:=by
 have hil:i<T.objs.length:=(List.getElem?_eq_some_iff.1 hi).1
 have at':∀(j:Nat) oj,(T.objs.set i o')[j]?=some oj→oj.live=true→∃o2,T.objs[j]?=some o2∧o2.live=true∧∀b,g.obj j=some b→OR g w b o2→OR g w b oj:=λj oj h hlj=>by
  rw [getElem?_set] at h
  split at h
  ·rename_i hij;subst hij
   injection h with h;subst h
   exact ⟨o,hi,hl,ho⟩
  ·exact ⟨oj,h,hlj,λ_ _ h=>h⟩
 exact {
  obj:=λid oj h hlj=>by
   obtain ⟨o2,h1,h2,h3⟩:=at' id oj h hlj
   obtain ⟨b,h4,h5,h6⟩:=r.obj id o2 h1 h2
   exact ⟨b,h4,h3 b h4 h5,h6⟩
  inj:=λi j oi oj b hi li hj lj=>by
   obtain ⟨o2,h1,h2,_⟩:=at' i oi hi li
   obtain ⟨o3,h3,h4,_⟩:=at' j oj hj lj
   exact r.inj i j o2 o3 b h1 h2 h3 h4
  out:=λid h=>r.out id (by simpa using h)
  st:=r.st
  fr:=r.fr
  tl:=r.tl
  tout:=r.tout
  tinj:=r.tinj
  tobj:=λi oi b k x hi li=>by
   obtain ⟨o2,h1,h2,_⟩:=at' i oi hi li
   exact r.tobj i o2 b k x h1 h2
  own:=r.own
  own0:=r.own0
  tlo:=r.tlo}
theorem RW.objLe (r:RW g T w){i:Nat}{o o':VO}(hi:T.objs[i]?=some o)(hl:o.live=true)(hl':o'.live=true)(ho:∀b,OR g w b o→OR g w b o'):RW g {T with objs:=T.objs.set i o' } w:=r.objLeAt hi hl hl' λb _ h=>ho b h
end
section
variable {P:Program}{G:aP}
theorem VCx.at1 {f:FuncId}{ro k:Nat}{ys0 ys1:List TV}{o o1:VO}{T:VT}{K:TV→VT→Prop}{Q:TV→VO→List VO→Prop}(hG:eJ G)(hro:ro≤k)(ho:T.objs[k]?=some o)(hl:o.live=true)(hren:o.ren (aL [k]) (aL [])=o1)(hy:aw (aL [k]) (aL []) ys0=ys1)
  (hv:VCx P G 0 f ys1 ⟨[o1],[]⟩ λx T'=>∃o' l',T'=⟨o'::l',[]⟩∧Q x o' l')
  (hk:∀x o' l',Q x o' l'→K (x.ren (aJ T.objs.length [k]) (aJ T.tails.length [])) ⟨T.objs.set k (o'.ren (aJ T.objs.length [k]) (aJ T.tails.length []))++l'.map (VO.ren (aJ T.objs.length [k]) (aJ T.tails.length [])),T.tails⟩):VCx P G ro f ys0 T K:=by
 have hg:T.give [k] []=⟨[o1],[]⟩:=by simp only [VT.give,map_cons,map_nil,ho,getD_some,hren]
 refine (VCx.lift (xs:=ys1) [k] [] hG (by simp) nodup_nil (λj hj=> ?_) (by simp) (λi hi=> ?_) hy (by rw [hg];exact hv) (λx T' hq=> ?_)).mono ?_
 ·obtain rfl:=mem_singleton.1 hj;exact ⟨_,ho,hl⟩
 ·obtain rfl:=mem_singleton.1 hi;exact hro
 ·obtain ⟨o',l',rfl,_⟩:=hq;exact ⟨by simp,zero_le _⟩
 ·rintro x T' ⟨y,T2,⟨o',l',rfl,hq⟩,rfl,rfl⟩
  simpa [VT.back,bJ] using hk y o' l' hq
end
abbrev Bs:=List (List TV)
def bT (z:Int):List TV:= [.val (.int .u8 z)]
def bV (l:List Int):Bs:=l.map bT
def IsB (b:Bs):Prop:=(∃l:List Int,b=bV l∧∀z∈l,0≤z∧z<256)∧b.length≤32000000
def gU:List TV→Int
 |[.val (.int _ z)]=>z
 |_=>0
theorem IsB.take {b:Bs}(h:IsB b)(n:Nat):IsB (b.take n):=by
 obtain ⟨⟨l,rfl,hl⟩,h2⟩:=h
 exact ⟨⟨l.take n,by simp [bV,List.map_take],λz hz=>hl z (List.mem_of_mem_take hz)⟩,by rw [length_take];omega⟩
theorem IsB.drop {b:Bs}(h:IsB b)(n:Nat):IsB (b.drop n):=by
 obtain ⟨⟨l,rfl,hl⟩,h2⟩:=h
 exact ⟨⟨l.drop n,by simp [bV,List.map_drop],λz hz=>hl z (List.mem_of_mem_drop hz)⟩,by rw [length_drop];omega⟩
theorem IsB.nil:IsB []:=⟨⟨[],rfl,λ_ h=>by simp at h⟩,zero_le _⟩
theorem Cm (f g:Nat→Option Nat):∀l:List Int,br f g (bV l)=bV l
 |[]=>rfl
 |a::l=>by simp only [bV,map_cons,br];rw [show br f g (l.map bT)=l.map bT from Cm f g l];rfl
theorem IsB.ren {b:Bs}(h:IsB b)(f g:Nat→Option Nat):br f g b=b:=by
 obtain ⟨⟨l,rfl,_⟩,_⟩:=h
 exact Cm f g l
theorem IsB.at {b:Bs}(h:IsB b){j:Nat}{r:List TV}(hr:b[j]?=some r):∃z:Int,r=bT z∧0≤z∧z<256:=by
 obtain ⟨⟨l,rfl,hl⟩,_⟩:=h
 simp only [bV,getElem?_map,map_eq_some_iff] at hr
 obtain ⟨z,hz,rfl⟩:=hr
 exact ⟨z,rfl,hl z (List.mem_of_getElem? hz)⟩
theorem IsB.small {b:Bs}(h:IsB b):b.length≤32000000:=h.2
theorem IsB.len1 {b:Bs}(h:IsB b):∀e∈b,e.length=1:=λe he=>by
 obtain ⟨j,hj,rfl⟩:=List.getElem_of_mem he
 obtain ⟨z,hz,_⟩:=h.at (getElem?_eq_getElem hj)
 rw [hz];rfl
def cU (n:Int)(b:Bs)(e:Int):Bool:=decide (e=0)&&decide (0≤n)&&decide (n≤b.length)
def b9 (n:Int)(b:Bs)(e:Int):Bs:=bif cU n b e then b.take n.toNat else []
def ar (n:Int)(b:Bs)(e:Int):Bs:=bif cU n b e then b.drop n.toNat else b
def au (n:Int)(b:Bs)(e:Int):Int:=bif decide (e=0) then (bif decide (n<0) then 2 else bif decide (n≤b.length) then 0 else 3) else e
def bE (n:Int)(b:Bs)(e a:Int):Int:=bif cU n b e then i64.wrap (a+n) else a
def kF (b:Bs):Int:=b.foldl (λn r=>n*256+gU r) 0
def aN (k:Nat)(b:Bs)(e:Int):Int:=bif cU k b e then kF (b.take k) else 0
theorem ig {n:Int}{b:Bs}{e:Int}(h:IsB b):IsB (b9 n b e):=by
 unfold b9;cases cU n b e
 ·exact .nil
 ·exact h.take _
theorem aC {n:Int}{b:Bs}{e:Int}(h:IsB b):IsB (ar n b e):=by
 unfold ar;cases cU n b e
 ·exact h
 ·exact h.drop _
theorem N3:∀(b:Bs) (r:List TV),kF (b++ [r])=kF b*256+gU r:=λb r=>by simp [kF,List.foldl_append]
theorem EF:∀(l:List Int) (n:Int),(∀z∈l,0≤z∧z<256)→0≤n→0≤(bV l).foldl (λn r=>n*256+gU r) n∧(bV l).foldl (λn r=>n*256+gU r) n<(n+1)*256^l.length
 |[],n,_,h=>by simp only [bV,map_nil,List.foldl_nil,length_nil,Int.pow_zero];omega
 |z::l,n,hz,h=>by
  obtain ⟨h1,h2⟩:=hz z mem_cons_self
  have e:gU (bT z)=z:=rfl
  obtain ⟨h3,h4⟩:=EF l (n*256+z) (λx hx=>hz x (mem_cons_of_mem _ hx)) (by omega)
  simp only [bV,map_cons,foldl_cons,e,length_cons] at h3 h4 ⊢
  refine ⟨h3,Int.lt_of_lt_of_le h4 ?_⟩
  have hp:(0:Int)≤256^l.length:=Int.pow_nonneg (by decide)
  have:=Int.mul_le_mul_of_nonneg_right (show n*256+z+1≤(n+1)*256 by omega) hp
  rw [Int.pow_succ,Int.mul_comm (256^l.length) 256,←Int.mul_assoc]
  exact this
theorem sU {l:List Int}(h:∀z∈l,0≤z∧z<256):0≤kF (bV l)∧kF (bV l)<256^l.length:=by
 have:=EF l 0 h (Int.le_refl _)
 simpa [kF] using this
def vl (n:Int):Prop:=0≤n∧n≤8
def vm (n:Int)(b:Bs):Prop:=n≤b.length
def dD (n:Int)(b:Bs):Int:=kF (b.take n.toNat)
def mZ (n:Int)(b:Bs)(e:Int):Int:=bif cU n b e then dD n b else 0
theorem Cn (k:Nat)(b:Bs)(e:Int):aN k b e=mZ k b e:=by simp only [aN,mZ,dD,Int.toNat_natCast]
theorem uB {n:Int}{b:Bs}{e:Int}:((b9 n b e).length:Int)=bif cU n b e then n else 0:=by
 unfold b9
 cases h:cU n b e
 ·rfl
 ·simp only [cU,and_eq_true,decide_eq_true_eq] at h
  simp only [cond_true,length_take];omega
theorem Qi {n:Int}{b:Bs}{e:Int}(h0:0≤n)(h:n≤(b9 n b e).length):dD n (b9 n b e)=mZ n b e:=by
 unfold mZ
 rw [uB] at h
 cases hc:cU n b e
 ·rw [hc] at h
  obtain rfl:n=0:=by simp only [cond_false] at h;omega
  rfl
 ·simp only [dD,b9,hc,cond_true,List.take_take,Nat.min_self]
theorem Qj {n:Int}{b:Bs}{e:Int}(h:((b9 n b e).length:Int)<n):mZ n b e=0:=by
 unfold mZ
 rw [uB] at h
 cases hc:cU n b e
 ·rfl
 ·rw [hc] at h;simp only [cond_true] at h;omega
theorem Co {n:Nat}{b:Bs}(h:IsB b)(e:Int):0≤mZ n b e∧mZ n b e<256^n:=by
 have hp:(0:Int)<256^n:=Int.pow_pos (by decide)
 unfold mZ
 cases hc:cU n b e
 ·exact ⟨Int.le_refl _,hp⟩
 ·obtain ⟨⟨l,hl,hz⟩,_⟩:=h.take n
  simp only [cond_true,dD,Int.toNat_natCast]
  have hlen:l.length=n:=by
   have:=congrArg length hl
   simp only [cU,and_eq_true,decide_eq_true_eq] at hc
   simp only [bV,length_map,length_take] at this
   omega
  rw [hl]
  have:=sU hz
  rwa [hlen] at this
theorem cu {n z:Int}(h0:0≤n)(hn:n<72057594037927936)(hz:0≤z)(hz2:z<256):wrap .u64 ((toNat (ofInt (IntKind.bits .u64) (wrap .u64 (n*(2:Int)^min (Int.toNat (8:Int)) (IntKind.bits .u64))) ||| ofInt (IntKind.bits .u64) (wrap .u64 z)):Nat):Int)=n*256+z:=by
 obtain ⟨a,rfl⟩:=Int.eq_ofNat_of_zero_le h0
 obtain ⟨c,rfl⟩:=Int.eq_ofNat_of_zero_le hz
 have e1:wrap .u64 ((a:Int)*(2:Int)^min (Int.toNat (8:Int)) (IntKind.bits .u64))=((a*256:Nat):Int):=by
  simp only [wrap,IntKind.bits,signed];simp;omega
 have e2:wrap .u64 (c:Int)=(c:Int):=by simp only [wrap,IntKind.bits,signed];simp;omega
 rw [e1,e2]
 have e3:(ofInt (IntKind.bits .u64) ((a*256:Nat):Int) ||| ofInt (IntKind.bits .u64) (c:Int)).toNat=a*256+c:=by
  rw [BitVec.toNat_or]
  simp only [IntKind.bits,BitVec.ofInt_natCast,BitVec.toNat_ofNat]
  rw [Nat.mod_eq_of_lt (by omega),Nat.mod_eq_of_lt (by omega),show a*256=2^8*a by omega,Nat.two_pow_add_eq_or_of_lt (by omega:c<2^8)]
 rw [e3]
 simp only [wrap,IntKind.bits,signed];simp;omega
theorem VCx.asVec {P:Program}{G:aP}{f:FuncId}{xs:List TV}{T:VT}{size:Nat}{es:List (List TV)}{Q:VT→Prop}(h:VCx P G 0 f xs T λx T'=>((x=.val (.slice none 0 0)∧es= [])∨∃tok,x=.vec size es tok)∧Q T'):VCx P G 0 f xs T λx T'=>x=.vec size es .none∧Q T':=by
 intro g w us rw0 hG hx
 refine Calls.mono (h g w us rw0 hG hx) ?_
 rintro e w' ⟨v,x,g',T',he,⟨hq,hQ⟩,e',r',hv,hfx⟩
 refine ⟨v,_,g',T',he,⟨rfl,hQ⟩,e',r',?_,hfx⟩
 rcases hq with ⟨rfl,rfl⟩ | ⟨tok,rfl⟩
 ·obtain rfl:=hv.val_inv
  exact .nil trivial
 ·exact nk hv
def aG (b:Bs)(a e:Int):VO:=.cells [.val (.bool true),.vec 1 b .none,.val (.int .i64 a),.val (.int .i64 e)]
theorem bK {b:Bs}(h:IsB b)(a e:Int)(f g:Nat→Option Nat):(aG b a e).ren f g=aG b a e:=by
 simp only [aG,VO.ren,aw,TV.ren,h.ren,Tok.ren]
def lu (kind:IntKind)(n:Nat):be:=λro ys T K=>match ys with
 |[.ptr k 0]=>match T.objs[k]? with
  |some (.cells [.val (.bool true),.vec 1 b .none,.val (.int .i64 a),.val (.int .i64 e)])=>(ble ro k=true∧IsB b)∧K (.val (.int kind (aN n b e))) {T with objs:=T.objs.set k (aG (ar n b e) (bE n b e a) (au n b e))}
  |_=>False
 |_=>False
section
variable {P:Program}{G:aP}
theorem Qk (hG:eJ G){f:FuncId}{kind:IntKind}{n:Nat}(h:∀b a e,IsB b→VCx P G 0 f [.ptr 0 0] ⟨[aG b a e],[]⟩ λx T'=>x=.val (.int kind (aN n b e))∧T'=⟨[aG (ar n b e) (bE n b e a) (au n b e)],[]⟩):
  ∀ro ys T K,lu kind n ro ys T K→VCx P G ro f ys T K:=by
 intro ro ys T K hw
 unfold lu at hw
 split at hw
 ·rename_i k
  split at hw
  ·rename_i b a e ho
   obtain ⟨⟨hro,hb⟩,hk⟩:=hw
   refine VCx.at1 (Q:=λx o' l'=>x=.val (.int kind (aN n b e))∧o'=aG (ar n b e) (bE n b e a) (au n b e)∧l'= []) hG (le_of_ble_eq_true hro) ho rfl (bK hb a e _ _) (ys1:= [.ptr 0 0]) (by simp [aw,TV.ren,aL]) ((h b a e hb).mono λx T' ⟨h1,h2⟩=>⟨_,_,h2,h1,rfl,rfl⟩) ?_
   rintro x o' l' ⟨rfl,rfl,rfl⟩
   rw [bK (aC hb)]
   simpa [TV.ren] using hk
  ·exact hw.elim
 ·exact hw.elim
end
--bumped 32
def bC (b:Bs)(e:Int):Int:=bif decide (e=0) then (b.length:Int) else 0
def Cp:be:=λro ys T K=>match ys with
 |[.ptr k 0,.val (.int .i64 n)]=>match T.objs[k]? with
  |some (.cells [.val (.bool true),.vec 1 b .none,.val (.int .i64 a),.val (.int .i64 e)])=>(ble ro k=true∧IsB b)∧K (.vec 1 (b9 n b e) .none) {T with objs:=T.objs.set k (aG (ar n b e) (bE n b e a) (au n b e))}
  |_=>False
 |_=>False
def m4:be:=λro ys T K=>match ys with
 |[.ptr k 0]=>match T.objs[k]? with
  |some (.cells [.val (.bool true),.vec 1 b .none,.val (.int .i64 a),.val (.int .i64 e)])=>(ble ro k=true∧IsB b)∧K (.val (.int .i64 (bC b e))) T
  |_=>False
 |_=>False
def lv:be:=λro ys T K=>match ys with
 |[.ptr k 0]=>match T.objs[k]? with
  |some (.cells [.val (.bool true),.vec 1 b .none,.val (.int .i64 a),.val (.int .i64 e)])=>(ble ro k=true∧IsB b)∧K (.val (.int .i64 e)) T
  |_=>False
 |_=>False
def xi:be:=λro ys T K=>match ys with
 |[.ptr k 0,.val (.int .i64 n)]=>match T.objs[k]? with
  |some (.cells [.val (.bool true),.vec 1 b .none,.val (.int .i64 a),.val (.int .i64 e)])=>(ble ro k=true∧IsB b)∧K (.ptr T.objs.length 0) {T with objs:=T.objs.set k (aG (ar n b e) (bE n b e a) (au n b e))++ [aG (b9 n b e) 0 0]}
  |_=>False
 |_=>False
def sV:be:=λro ys T K=>match ys with
 |[.ptr k 0]=>match T.objs[k]? with
  |some (.cells [.val (.bool true),.vec 1 b .none,.val (.int .i64 a),.val (.int .i64 e)])=>(ble ro k=true∧IsB b)∧K (.vec 1 (b9 (bC b e) b e) .none) {T with objs:=T.objs.set k (aG (ar (bC b e) b e) (bE (bC b e) b e a) (au (bC b e) b e))}
  |_=>False
 |_=>False
def mA:be:=λ_ ys T K=>match ys with
 |[.vec 1 b _]=>IsB b∧K (.ptr T.objs.length 0) {T with objs:=T.objs++ [aG b 0 0]}
 |_=>False
section
variable {P:Program}{G:aP}
theorem rh {T:VT}{k:Nat}{o:VO}(h:T.objs[k]?=some o):T.objs.set k o=T.objs:=by
 apply List.ext_getElem?
 intro j
 rw [getElem?_set]
 split
 ·rename_i e;subst e
  rw [if_pos (List.getElem?_eq_some_iff.1 h).1,h]
 ·rfl
theorem Iy (hG:eJ G){f:FuncId}(h:∀b a e n,IsB b→VCx P G 0 f [.ptr 0 0,.val (.int .i64 n)] ⟨[aG b a e],[]⟩ λx T'=>x=.vec 1 (b9 n b e) .none∧T'=⟨[aG (ar n b e) (bE n b e a) (au n b e)],[]⟩):
  ∀ro ys T K,Cp ro ys T K→VCx P G ro f ys T K:=by
 intro ro ys T K hw
 unfold Cp at hw
 split at hw
 ·rename_i k n
  split at hw
  ·rename_i b a e ho
   obtain ⟨⟨hro,hb⟩,hk⟩:=hw
   refine VCx.at1 (Q:=λx o' l'=>x=.vec 1 (b9 n b e) .none∧o'=aG (ar n b e) (bE n b e a) (au n b e)∧l'= []) hG (le_of_ble_eq_true hro) ho rfl (bK hb a e _ _) (ys1:= [.ptr 0 0,.val (.int .i64 n)]) (by simp [aw,TV.ren,aL]) ((h b a e n hb).mono λx T' ⟨h1,h2⟩=>⟨_,_,h2,h1,rfl,rfl⟩) ?_
   rintro x o' l' ⟨rfl,rfl,rfl⟩
   rw [bK (aC hb)]
   simpa [TV.ren,(ig hb).ren,Tok.ren] using hk
  ·exact hw.elim
 ·exact hw.elim
theorem Ql (hG:eJ G){f:FuncId}(h:∀b a e,IsB b→VCx P G 0 f [.ptr 0 0] ⟨[aG b a e],[]⟩ λx T'=>x=.val (.int .i64 (bC b e))∧T'=⟨[aG b a e],[]⟩):
  ∀ro ys T K,m4 ro ys T K→VCx P G ro f ys T K:=by
 intro ro ys T K hw
 unfold m4 at hw
 split at hw
 ·rename_i k
  split at hw
  ·rename_i b a e ho
   obtain ⟨⟨hro,hb⟩,hk⟩:=hw
   refine VCx.at1 (Q:=λx o' l'=>x=.val (.int .i64 (bC b e))∧o'=aG b a e∧l'= []) hG (le_of_ble_eq_true hro) ho rfl (bK hb a e _ _) (ys1:= [.ptr 0 0]) (by simp [aw,TV.ren,aL]) ((h b a e hb).mono λx T' ⟨h1,h2⟩=>⟨_,_,h2,h1,rfl,rfl⟩) ?_
   rintro x o' l' ⟨rfl,rfl,rfl⟩
   rw [bK hb,show T.objs.set k (aG b a e)=T.objs from rh ho]
   simpa [TV.ren] using hk
  ·exact hw.elim
 ·exact hw.elim
theorem Qm (hG:eJ G){f:FuncId}(h:∀b a e,IsB b→VCx P G 0 f [.ptr 0 0] ⟨[aG b a e],[]⟩ λx T'=>x=.val (.int .i64 e)∧T'=⟨[aG b a e],[]⟩):
  ∀ro ys T K,lv ro ys T K→VCx P G ro f ys T K:=by
 intro ro ys T K hw
 unfold lv at hw
 split at hw
 ·rename_i k
  split at hw
  ·rename_i b a e ho
   obtain ⟨⟨hro,hb⟩,hk⟩:=hw
   refine VCx.at1 (Q:=λx o' l'=>x=.val (.int .i64 e)∧o'=aG b a e∧l'= []) hG (le_of_ble_eq_true hro) ho rfl (bK hb a e _ _) (ys1:= [.ptr 0 0]) (by simp [aw,TV.ren,aL]) ((h b a e hb).mono λx T' ⟨h1,h2⟩=>⟨_,_,h2,h1,rfl,rfl⟩) ?_
   rintro x o' l' ⟨rfl,rfl,rfl⟩
   rw [bK hb,show T.objs.set k (aG b a e)=T.objs from rh ho]
   simpa [TV.ren] using hk
  ·exact hw.elim
 ·exact hw.elim
theorem K8 (hG:eJ G){f:FuncId}(h:∀b a e n,IsB b→VCx P G 0 f [.ptr 0 0,.val (.int .i64 n)] ⟨[aG b a e],[]⟩ λx T'=>x=.ptr 1 0∧T'=⟨[aG (ar n b e) (bE n b e a) (au n b e),aG (b9 n b e) 0 0],[]⟩):
  ∀ro ys T K,xi ro ys T K→VCx P G ro f ys T K:=by
 intro ro ys T K hw
 unfold xi at hw
 split at hw
 ·rename_i k n
  split at hw
  ·rename_i b a e ho
   obtain ⟨⟨hro,hb⟩,hk⟩:=hw
   refine VCx.at1 (Q:=λx o' l'=>x=.ptr 1 0∧o'=aG (ar n b e) (bE n b e a) (au n b e)∧l'= [aG (b9 n b e) 0 0]) hG (le_of_ble_eq_true hro) ho rfl (bK hb a e _ _) (ys1:= [.ptr 0 0,.val (.int .i64 n)]) (by simp [aw,TV.ren,aL]) ((h b a e n hb).mono λx T' ⟨h1,h2⟩=>⟨_,_,h2,h1,rfl,rfl⟩) ?_
   rintro x o' l' ⟨rfl,rfl,rfl⟩
   rw [bK (aC hb)]
   simp only [map_cons,map_nil,bK (ig hb)]
   simpa [TV.ren,aJ] using hk
  ·exact hw.elim
 ·exact hw.elim
theorem Iz (hG:eJ G){f:FuncId}(h:∀b a e,IsB b→VCx P G 0 f [.ptr 0 0] ⟨[aG b a e],[]⟩ λx T'=>x=.vec 1 (b9 (bC b e) b e) .none∧T'=⟨[aG (ar (bC b e) b e) (bE (bC b e) b e a) (au (bC b e) b e)],[]⟩):
  ∀ro ys T K,sV ro ys T K→VCx P G ro f ys T K:=by
 intro ro ys T K hw
 unfold sV at hw
 split at hw
 ·rename_i k
  split at hw
  ·rename_i b a e ho
   obtain ⟨⟨hro,hb⟩,hk⟩:=hw
   refine VCx.at1 (Q:=λx o' l'=>x=.vec 1 (b9 (bC b e) b e) .none∧o'=aG (ar (bC b e) b e) (bE (bC b e) b e a) (au (bC b e) b e)∧l'= []) hG (le_of_ble_eq_true hro) ho rfl (bK hb a e _ _) (ys1:= [.ptr 0 0]) (by simp [aw,TV.ren,aL]) ((h b a e hb).mono λx T' ⟨h1,h2⟩=>⟨_,_,h2,h1,rfl,rfl⟩) ?_
   rintro x o' l' ⟨rfl,rfl,rfl⟩
   rw [bK (aC hb)]
   simpa [TV.ren,(ig hb).ren,Tok.ren] using hk
  ·exact hw.elim
 ·exact hw.elim
theorem IA (hG:eJ G){f:FuncId}(h:∀b,IsB b→VCx P G 0 f [.vec 1 b .none] ⟨[],[]⟩ λx T'=>x=.ptr 0 0∧T'=⟨[aG b 0 0],[]⟩):
  ∀ro ys T K,mA ro ys T K→VCx P G ro f ys T K:=by
 intro ro ys T K hw
 unfold mA at hw
 split at hw
 ·rename_i b tok
  obtain ⟨hb,hk⟩:=hw
  refine VCx.loose ?_
  refine (VCx.lift (xs:= [.vec 1 b .none]) [] [] hG nodup_nil nodup_nil (λk hk=>by simp at hk) (by simp) (λi hi=>by simp at hi) (by simp [aw,ea,TV.ren,hb.ren,Tok.ren]) (h b hb) (λx T' hq=>⟨zero_le _,zero_le _⟩)).mono ?_
  rintro x T' ⟨y,T2,⟨rfl,rfl⟩,rfl,rfl⟩
  have e:VT.back T [] [] ⟨[aG b 0 0],[]⟩={T with objs:=T.objs++ [aG b 0 0]}:=by
   simp only [VT.back,map_cons,map_nil,bK hb,bJ,List.append_nil]
  rw [e]
  simpa [TV.ren,aJ] using hk
 ·exact hw.elim
end
def VP (B:Bs)(n:Int):Bs:=B.drop n.toNat
def Vl (m:Int)(B:Bs)(n e:Int):Int:=bif cU m (VP B n) e then n+m else n
section
variable {P:Program}{G:aP}
end
--bumped 32
section
variable {P:Program}{G:aP}
def Uo (size:Nat)(es:List (List TV))(x:TV)(T':VT):Prop:=(x=.val (.slice none 0 0)∧es= [])∨(∃tok,x=.vec size es tok)∨Gu x T'=some (size,es)
theorem VCx.toVec {f:FuncId}{xs:List TV}{size:Nat}{es:List (List TV)}(hes:∀f h,br f h es=es)(h:VCx P G 0 f xs ⟨[],[]⟩ λx T'=>Uo size es x T'):VCx P G 0 f xs ⟨[],[]⟩ λx T'=>x=.vec size es .none∧T'=⟨[],[]⟩:=by
 refine VCx.keepQ 0 0 (le_refl _) (le_refl _) ?_
 intro g w us rw0 hG hx
 refine Calls.mono (h g w us rw0 hG hx) ?_
 rintro e w' ⟨v,x,g',T',he,hq,e',r',hv,hfx⟩
 have hk:∀T2:VT,(TV.vec size es Tok.none).ren (ap 0) (ap 0)=.vec size es .none∧T2.keep 0 0=⟨[],[]⟩:=λT2=>⟨by simp only [TV.ren,hes,Tok.ren],by simp [VT.keep]⟩
 have hf:∀(T2:VT),Fix 0 g ⟨[],[]⟩ w T2 w':=λT2=>⟨by simp,λi hi=>absurd hi (not_lt_zero i),λi o b hi=>absurd hi (not_lt_zero i)⟩
 rcases hq with ⟨rfl,rfl⟩ | ⟨tok,rfl⟩ | hq
 ·obtain rfl:=hv.val_inv
  exact ⟨_,_,g',T',he,hk _,e',r',.nil trivial,hf _⟩
 ·exact ⟨v,_,g',T',he,hk _,e',r',nk hv,hf _⟩
 ·unfold Gu at hq
  split at hq
  ·rename_i sz id off n
   simp only [map_eq_some_iff,Prod.mk.injEq] at hq
   obtain ⟨es',h1,rfl,rfl⟩:=hq
   obtain ⟨g2,e2,r2,v2⟩:=nl r' h1 hv
   exact ⟨v,_,g2,_,he,hk _,e'.trans e2,r2,v2,hf _⟩
  ·cases hq
end
section
variable {P:Program}{G:aP}
end
abbrev ah (a1:Int):TV:=(.val (.int .i64 a1))
abbrev aH (a1:List (List TV)):TV:=(.vec 1 a1 .none)
abbrev jb (a1:Int):TV:=(.val (.int .u32 a1))
abbrev mB (a1:Bool):TV:=(.val (.bool a1))
abbrev Ac (a1:Int)(a2:List (List TV))(a3 a4:Int)(a5:Bool):VO:=(.cells [(ah a1),(aH a2),(jb a3),(ah a4),(mB a5)])
abbrev IB (a1:Int)(a2:List (List TV))(a3 a4:Int)(a5:Bool)(a6:Int)(a7:List (List TV))(a8 a9:Int)(a10:Bool):VT:=⟨[(Ac a1 a2 a3 a4 a5),(Ac a6 a7 a8 a9 a10)],[]⟩
abbrev ak:TV:=(.val (.bool false))
abbrev Qn (a1 a2:List (List TV))(a3 a4:Int):List TV:= [(aH a1),(aH a2),ak,(ah a3),(ah a4)]
abbrev jG (a1 a2:Int)(a3:List (List TV)):VO:=(.cells [(ah a1),(ah a2),(aH a3)])
abbrev Cq (a1 a2:Int)(a3:List (List TV))(a4 a5:Int)(a6:List (List TV)):VT:=⟨[(jG a1 a2 a3),(jG a4 a5 a6)],[]⟩
abbrev ef (a1:List (List TV)):TV:=(.vec 2 a1 .none)
abbrev VQ (a1 a2 a3 a4:Int)(a5 a6:List (List TV))(a7:Int)(a8:List (List TV))(a9 a10:Int)(a11:Bool)(a12:List (List TV))(a13 a14:Int)(a15:List (List TV)):VO:=(.cells [(ah a1),(ah a2),(ah a3),(jb a4),(ef a5),(ef a6),(ah a7),(aH a8),(jb a9),(ah a10),(mB a11),(ef a12),(ah a13),(ah a14),(aH a15)])
abbrev aF:TV:=(.val (.bool true))
abbrev sW (a1:Nat):TV:=(.row 1 2 0 a1)
abbrev aB:TV:=(.val (.int .i64 0))
abbrev mN:TV:=(.vec 1 [] .none)
abbrev vV (a1:Int)(a2:Nat)(a3:Int):VO:=(.cells [aF,(ah a1),(sW a2),aB,aB,mN,(ah a3)])
abbrev pJ:TV:=(.row 1 0 0 0)
abbrev bD (a1:List TV):VO:=(.row a1)
abbrev aO:TV:=(.val (.slice .none 0 0))
abbrev cA:VO:=(.cells [aB,aB,aO])
abbrev la (a1 a2:Int):VO:=(.cells [(ah a1),(ah a2),mN])
abbrev VS (a1:List TV)(a2 a3 a4 a5:Int):VT:=⟨[(bD a1),cA,(la a2 a3),(la a4 a5)],[]⟩
abbrev cF:TV:=(.val (.int .u32 0))
abbrev Cr:VO:=(.cells [aB,aB,aB,cF,aO,aO,aB,aO,cF,aB,ak,aO,aB,aB,aO])
abbrev eR:TV:=(.val (.int .i64 1))
abbrev ei:TV:=(.val (.int .i64 2))
abbrev Qo (a1:List TV)(a2:Int)(a3:List (List TV))(a4:Int)(a5:List (List TV)):VT:=⟨[(bD a1),Cr,(.cells [eR,(ah a2),(aH a3)]),(.cells [eR,(ah a4),(aH a5)]),(.cells [eR,ei,aO])],[]⟩
abbrev Gw:TV:=(.agg [aB,aB,aB,cF,aO,aO,aB,aO,cF,aB,ak,aO,aB,aB,aO])
abbrev Qp (a1:Int)(a2:List (List TV)):TV:=(.tup [Gw,(.agg [eR,(ah a1),(aH a2)])])
abbrev Qq (a1:Int):VO:=(.cells [(ah a1),aB,aB,cF,aO,aO,aB,aO,cF,aB,ak,aO,aB,aB,aO])
abbrev dk:VO:=(.cells [aB,aB,mN])
abbrev oe:VO:=(.cells [eR,ei,(.row 1 5 0 2)])
abbrev Qr (a1:List TV)(a2:Int)(a3 a4:TV)(a5:Int):VT:=⟨[(bD a1),(Qq a2),cA,dk,oe,(.row [a3,a4]),(Qq a5)],[]⟩
abbrev lN:TV:=(.agg [aB,aB,aO])
abbrev Qs (a1:Int):TV:=(.tup [(.agg [(ah a1),aB,aB,cF,aO,aO,aB,aO,cF,aB,ak,aO,aB,aB,aO]),lN])
abbrev VU (a1 a2 a3:Int)(a4:List (List TV)):VO:=(.cells [(ah a1),aB,aB,cF,aO,aO,aB,aO,cF,aB,ak,aO,(ah a2),(ah a3),(aH a4)])
abbrev VV (a1 a2 a3 a4:Int)(a5:List (List TV)):VO:=(.cells [(ah a1),(ah a2),(ah a3),(jb a4),(ef a5),aO,aB,aO,cF,aB,ak,aO,aB,aB,aO])
abbrev Qt (a1:List TV)(a2 a3:TV):VT:=⟨[(bD a1),Cr,oe,dk,oe,(.row [a2,a3])],[]⟩
abbrev K9:TV:=(.tup [Gw,(.agg [eR,ei,(.row 1 5 0 2)])])
abbrev bh (a1:Int):TV:=(.val (.int .u8 a1))
abbrev Gx (a1 a2:Int):VO:=(.row [(bh a1),(bh a2)])
abbrev jJ:TV:=(.val (.int .u8 255))
abbrev sX:VO:=(.cells [jJ,jJ,jJ,jJ,jJ,jJ,jJ,jJ,jJ,jJ,jJ,jJ,jJ,jJ,jJ,jJ])
abbrev VW (a1:List TV)(a2 a3:Int):VT:=⟨[(bD a1),cA,(Gx a2 a3),sX,sX],[]⟩
abbrev Qu (a1 a2:Int):TV:=(.tup [(ah a1),(ah a2),lN])
abbrev fK:TV:=(.val (.int .i64 3))
abbrev sY (a1:List (List TV)):TV:=(.vec 1 a1 .full)
abbrev VX (a1:List TV)(a2:List (List TV))(a3 a4:Int)(a5:List (List TV)):VT:=⟨[(bD a1),(.cells [eR,fK,(sY a2)]),(Gx a3 a4),sX,sX,(.cells [eR,fK,(sY a5)])],[]⟩
abbrev Qv (a1:List (List TV)):TV:=(.tup [aB,aB,(.agg [eR,fK,(sY a1)])])
abbrev VY (a1:List TV)(a2 a3:Int):VT:=⟨[(bD a1),(.cells [eR,ei,(.row 1 2 0 2)]),(Gx a2 a3),sX,sX,(.cells [eR,ei,(.row 1 2 0 2)])],[]⟩
abbrev Gy:TV:=(.tup [aB,aB,(.agg [eR,ei,(.row 1 2 0 2)])])
abbrev Qw:VO:=(.cells [eR,eR,aO])
abbrev pK:List TV:= [aB,(.val (.int .i64 29)),(.val (.int .i64 23)),(.val (.int .i64 21)),(.val (.int .i64 19))]
abbrev VZ (a1:List TV)(a2 a3:Int)(a4:List (List TV))(a5 a6:Int)(a7:List (List TV)):VT:=⟨[(bD a1),cA,(jG a2 a3 a4),(jG a5 a6 a7)],[]⟩
abbrev ri:TV:=(.tup [lN,ak])
abbrev og (a1:Nat):TV:=(.row 1 1 0 a1)
abbrev oh (a1:List TV):VT:=⟨[(bD a1)],[]⟩
abbrev La:TV:=(.val (.int .i64 6))
abbrev sZ:VO:=(.cells [ei,La,aO])
abbrev yU:TV:=(.agg [aB,aB,cF,aO])
abbrev Gz:TV:=(.tup [yU,(.agg [ei,La,aO])])
abbrev s4 (a1:Int):VO:=(.cells [ei,(ah a1),aO])
abbrev GA (a1:Int):TV:=(.tup [yU,(.agg [ei,(ah a1),aO])])
abbrev s5 (a1 a2 a3:Int)(a4:List (List TV)):VO:=(.cells [(ah a1),(ah a2),(jb a3),(ef a4)])
abbrev GB (a1 a2 a3:Int)(a4:List (List TV)):TV:=(.tup [(.agg [(ah a1),(ah a2),(jb a3),(ef a4)]),lN])
abbrev s6:VO:=(.cells [ei,fK,aO])
abbrev GC:TV:=(.tup [yU,(.agg [ei,fK,aO])])
abbrev iA (a1 a2 a3:Int):VO:=(.cells [(ah a1),(ah a2),(jb a3),aO])
abbrev GD:VO:=(.cells [ei,ei,aO])
abbrev Qx:TV:=(.tup [yU,(.agg [ei,ei,aO])])
abbrev pL:VO:=(.cells [ei,aB,aO])
abbrev cB:VO:=(.cells [aB,aB,cF,aO])
abbrev Cs:TV:=(.tup [yU,(.agg [ei,aB,aO])])
abbrev GE:VO:=(.cells [fK,(.val (.int .i64 10)),aO])
abbrev Lb:TV:=(.agg [aO,aB,aO,cF,aB,ak,aO])
abbrev Qy:TV:=(.tup [Lb,(.agg [fK,(.val (.int .i64 10)),aO])])
abbrev GF (a1 a2:List (List TV)):VO:=(.cells [(ef a1),aB,mN,cF,aB,ak,(ef a2)])
abbrev Qz (a1 a2:List (List TV)):TV:=(.tup [(.agg [(ef a1),aB,mN,cF,aB,ak,(ef a2)]),lN])
abbrev s7:VO:=(.cells [aB,mN,cF,aB,ak])
abbrev GG (a1:Int)(a2:List (List TV)):TV:=(.tup [Lb,(.agg [fK,(ah a1),(aH a2)])])
abbrev V0 (a1:List (List TV))(a2:Int)(a3:List (List TV))(a4 a5:Int)(a6:Bool)(a7:List (List TV)):VO:=(.cells [(ef a1),(ah a2),(aH a3),(jb a4),(ah a5),(mB a6),(ef a7)])
abbrev V1 (a1:List (List TV))(a2:Int)(a3:List (List TV))(a4 a5:Int)(a6:Bool)(a7:List (List TV)):TV:=(.tup [(.agg [(ef a1),(ah a2),(aH a3),(jb a4),(ah a5),(mB a6),(ef a7)]),lN])
abbrev iB (a1:List (List TV)):VO:=(.cells [(.ptr 5 6),(aH a1)])
abbrev gV (a1:List (List TV)):VO:=(.cells [(.ptr 5 0),(aH a1)])
abbrev iC (a1 a2:List (List TV)):VO:=(.cells [(ef a1),aB,aO,cF,aB,ak,(ef a2)])
abbrev vW (a1 a2:List (List TV)):TV:=(.tup [(.agg [(ef a1),aB,aO,cF,aB,ak,(ef a2)]),lN])
abbrev rj:TV:=(.ptr 3 0)
abbrev gG:VO:=(.cells [rj])
abbrev ol:VO:=(.cells [aO,aB,aO,cF,aB,ak,aO])
abbrev GH (a1:Int)(a2:List (List TV)):VO:=(.cells [fK,(ah a1),(aH a2)])
abbrev fb:TV:=(.ptr 0 0)
abbrev lO:TV:=(.ptr 1 0)
abbrev pM:TV:=(.ptr 4 0)
abbrev QA (a1:List (List TV))(a2 a3:Int):List TV:= [fb,lO,rj,pM,(.vec 3 a1 .none),(ah a2),(ah a3)]
abbrev om:VO:=(.cells [aB,aO,cF,aB,ak])
abbrev gg (a1:Int)(a2:TV)(a3 a4:Int)(a5:Bool):VO:=(.cells [(ah a1),a2,(jb a3),(ah a4),(mB a5)])
abbrev GI (a1:Int)(a2:TV)(a3 a4:Int)(a5:Bool)(a6:List TV)(a7 a8:Int)(a9:List (List TV)):VT:=⟨[om,cA,dk,(gg a1 a2 a3 a4 a5),(.cells a6),(jG a7 a8 a9)],[]⟩
abbrev QB:VO:=(.cells [fK,eR,mN])
abbrev Lc:TV:=(.agg [aB,aO,cF,aB,ak])
abbrev GJ (a1:List (List TV))(a2:Int)(a3:List (List TV))(a4 a5:Int)(a6:Bool)(a7:List TV):VT:=⟨[om,(.cells [fK,fK,(sY a1)]),dk,(Ac a2 a3 a4 a5 a6),(.cells a7)],[]⟩
abbrev GK (a1 a2 a3:Int)(a4:Bool):VO:=(.cells [(ah a1),aO,(jb a2),(ah a3),(mB a4)])
abbrev GL (a1:List (List TV))(a2 a3 a4:Int)(a5:Bool)(a6:List TV):VT:=⟨[om,(.cells [fK,fK,(sY a1)]),dk,(GK a2 a3 a4 a5),(.cells a6)],[]⟩
abbrev uC (a1:List (List TV)):TV:=(.tup [Lc,(.agg [fK,fK,(sY a1)])])
abbrev MN:VT:=⟨[om,cA,dk,om,(.cells [ak,ak,ak,ak,ak,ak,ak,ak,ak,ak,ak,ak,ak,ak,ak,ak,ak,ak,ak,ak,ak,ak,ak,ak,ak,ak,ak,ak,ak,ak,ak,ak,ak,ak,ak,ak,ak,ak,ak,ak,ak,ak,ak,ak,ak,ak,ak,ak,ak,ak,ak,ak,ak,ak,ak,ak,ak,ak,ak,ak,ak,ak,ak,ak,ak,ak,ak,ak,ak,ak,ak,ak,ak,ak,ak,ak,ak,ak,ak,ak,ak,ak,ak,ak,ak,ak,ak,ak,ak,ak,ak,ak,ak,ak,ak,ak,ak,ak,ak,ak,ak,ak,ak,ak,ak,ak,ak,ak,ak,ak,ak,ak,ak,ak,ak,ak,ak,ak,ak,ak,ak,ak,ak,ak,ak,ak,ak,ak,ak,ak,ak,ak,ak,ak,ak,ak,ak,ak,ak,ak,ak,ak,ak,ak,ak,ak,ak,ak,ak,ak,ak,ak,ak,ak,ak,ak,ak,ak,ak,ak,ak,ak,ak,ak,ak,ak,ak,ak,ak,ak,ak,ak,ak,ak,ak,ak,ak,ak,ak,ak,ak,ak,ak,ak,ak,ak,ak,ak,ak,ak,ak,ak,ak,ak,ak,ak,ak,ak,ak,ak,ak,ak,ak,ak,ak,ak,ak,ak,ak,ak,ak,ak,ak,ak,ak,ak,ak,ak,ak,ak,ak,ak,ak,ak,ak,ak,ak,ak,ak,ak,ak,ak,ak,ak,ak,ak,ak,ak,ak,ak,ak,ak,ak,ak,ak,ak,ak,ak,ak,ak,ak,ak,ak,ak,ak,ak])],[]⟩
abbrev b7:VO:=(.cells [fb])
abbrev GM:TV:=(.val (.int .i64 64))
abbrev lb:TV:=(.val (.int .i64 4))
abbrev GN (a1:TV):VO:=(.cells [GM,lb,a1])
abbrev MO (a1:Int)(a2:TV)(a3 a4:Int)(a5:Bool)(a6 a7:Int)(a8:List (List TV))(a9 a10:TV):VT:=⟨[(gg a1 a2 a3 a4 a5),(jG a6 a7 a8),b7,(GN a9),(GN a10)],[]⟩
abbrev GO (a1:TV):VO:=(.cells [GM,eR,a1])
abbrev MP (a1:Int)(a2:TV)(a3 a4:Int)(a5:Bool)(a6 a7:Int)(a8:List (List TV))(a9 a10:TV):VT:=⟨[(gg a1 a2 a3 a4 a5),(jG a6 a7 a8),b7,(GO a9),(GO a10)],[]⟩
abbrev pk (a1:TV):VO:=(.cells [aB,aB,a1])
abbrev Up (a1:TV):VO:=(.cells [(.val (.int .i64 128)),lb,a1])
abbrev Uq (a1:TV):VO:=(.cells [GM,aB,a1])
abbrev uD:TV:=(.val (.int .i64 5))
abbrev nm (a1:List (List TV))(a2:Nat):TV:=(.vec 1 a1 (.tail 0 a2))
abbrev GP (a1:List (List TV))(a2:Nat)(a3:Int):List TV:= [aO,ak,fb,(nm a1 a2),(ah a3),aB]
abbrev pm (a1:List (List TV))(a2:Nat):List TV:= [aO,ak,fb,(nm a1 a2)]
abbrev GQ (a1:List (List TV))(a2 a3:Int)(a4:List (List TV))(a5 a6:Int):List TV:= [(aH a1),(ah a2),(ah a3),(aH a4),(ah a5),(ah a6)]
abbrev xj:VO:=(.cells [fK,eR,aO])
abbrev uE (a1:List (List TV))(a2:Nat):TV:=(.vec 3 a1 (.tail 0 a2))
abbrev xk (a1:List (List TV))(a2:Nat):List TV:= [aO,fb,lO,(uE a1 a2)]
abbrev MQ:TV:=(.agg [fK,eR,aO])
abbrev iI (a1:List (List TV))(a2:Nat):TV:=(.vec 2 a1 (.tail 0 a2))
abbrev Ba (a1:List (List TV))(a2:Nat):List TV:= [fb,aO,aB,ak,(iI a1 a2)]
abbrev xm:TV:=(.vec 2 [] (.tail 0 0))
abbrev MR:List TV:= [fb,aO,aB,ak,xm]
abbrev GR (a1:List (List TV))(a2:Nat):List TV:= [aO,ak,fb,(iI a1 a2)]
abbrev Bb:TV:=(.tup [aO,ak])
abbrev jD:TV:=(.val (.int .u8 0))
abbrev MS (a1:Int):VO:=(.cells [(bh a1),jD,jD,jD])
abbrev gW (a1:Int):List TV:= [(bh a1)]
abbrev xp (a1 a2:Int):TV:=(.tup [(.agg [(jb a1),(ah a2)]),aF])
abbrev MT:VO:=(.cells [jD,jD,jD,jD])
abbrev gX:VO:=(.cells [cF,aB])
abbrev gY:TV:=(.tup [(.agg [cF,aB]),ak])
abbrev nn (a1 a2:Int):VO:=(.cells [(jb a1),(ah a2)])
abbrev cw (a1:VO):VT:=⟨[a1],[]⟩
abbrev uF:TV:=(.vec 1 [] .full)
abbrev aD:VT:=⟨[],[]⟩
abbrev k6 (a b:Int):Bool:=aq (Value.int i64 a) (Value.int i64 b)
def ae:aP:=λ_=>none
def bo:FuncId→Option be:=λ_=>none
def aU:Nat→Option (bW × Code):=λ_=>none
abbrev m5:=30
abbrev ke:=83
abbrev yV:=118
abbrev vX:=114
abbrev jK:=92
abbrev GS:=116
abbrev kf:=88
abbrev jc:=94
abbrev GT:=93
abbrev iD:=84
abbrev mn:=85
abbrev Bc:=86
abbrev mO:=81
abbrev uG:=134
def V8 (T:VT)(n:Nat):VT:={T with tails:= [(n,1,false)]}
def mC:be:=λ_ ys T K=>match ys with
 |[.vec 1 b _]=>IsB b∧K (.vec 1 b .none) T
 |_=>False
def Ct:List Nat:= [5,10,11,12]
def Cu (b:Bs)(n j:Int):List TV:= [.val (.int .u64 n),.vec 1 b .none,.val (.int .i64 b.length),.val (.int .i64 j)]
def Vm (b:Bs)(n:Int)(c0:Code):Nat→Option (bW × Code):=bX [(0,gn 23 Ct [] (Cu b 0 0) ⟨[],[]⟩ λK=>K .normal (aI 23 Ct (Cu b n b.length)) ⟨[],[]⟩ [],c0)]
def GU:be:=λro ys T K=>match ys with
 |[.ptr k 0,.val (.int .i64 n)]=>match T.objs[k]? with
  |some (.cells [.val (.bool true),.vec 1 b .none,.val (.int .i64 a),.val (.int .i64 e)])=>(ble ro k=true∧IsB b)∧K (.vec 1 (b9 n b e) .none) {T with objs:=T.objs.set k (aG (ar n b e) (bE n b e a) (au n b e))}
  |_=>False
 |_=>False
def GV:be:=λ_ ys T K=>match ys with
 |[.vec 1 b _,.val (.int .i64 n)]=>(IsB b∧vl n∧vm n b)∧K (.val (.int .u64 (dD n b))) T
 |_=>False
def yW:be:=λro ys T K=>match ys with
 |[.ptr k 0,.val (.int .i64 n)]=>match T.objs[k]? with
  |some (.cells [.val (.bool true),.vec 1 b .none,.val (.int .i64 a),.val (.int .i64 e)])=>(ble ro k=true∧IsB b∧vl n)∧K (.val (.int .u64 (mZ n b e))) {T with objs:=T.objs.set k (aG (ar n b e) (bE n b e a) (au n b e))}
  |_=>False
 |_=>False
theorem QC (Q:TV→VT→Prop):ax prog ae bo aR 300 aU 0 m5 [.vec 1 [] .none] aD Q=
 (Q aO aD∧
 Q uF aD):=by kernel_rfl
theorem QD (r:List TV)(b:Bs)(Q:TV→VT→Prop):ax prog ae bo (bB [(999998,.dead,none),(7,.vec 1 (r::b) (.tail 0 (b.length+1)),some λT=>V8 T (b.length+1))]) 300 aU 0 m5 [.vec 1 (r::b) .none] aD Q=
 (bp prog (λ_=>.none) 0 aD (.call ⟨(.builtin .append),#[(.tmp 5),(.tmp 6)],#[22,22]⟩) [(5,uF),(6,(aH ([(r)]++b)))] (nm ([(r)]++b) (length b+(1:Nat))) ⟨[],[((length b+(1:Nat)),(1,false))]⟩∧
 Q (nm ([(r)]++b) (length b+(1:Nat))) ⟨[],[((length b+(1:Nat)),(1,false))]⟩):=by kernel_rfl
theorem QE (b:Bs)(Q:TV→VT→Prop):ax prog ae (aT [(m5,mC)]) aR 300 aU 0 ke [.vec 1 b .none] aD Q=
 (IsB (b)∧
 Q fb ⟨[(.cells [aF,(aH b),aB,aB])],[]⟩):=by kernel_rfl
theorem QF (b:Bs)(a e n:Int)(k:Nat)(Q:TV→VT→Prop):ax prog ae bo (bB [(999998,.dead,none),(32,.vec 1 (b.take k) .none,none),(40,.vec 1 (b.drop k) .none,none)]) 300 aU 0 yV [.ptr 0 0,.val (.int .i64 n)] (cw (aG b a e)) Q=
 (bif !av eql (k6 e (0:Int))
 then Q aO ⟨[(.cells [aF,(aH b),(ah a),(ah e)])],[]⟩
 else (bif decide (n<(0:Int))
 then Q aO ⟨[(.cells [aF,(aH b),(ah a),ei])],[]⟩
 else (bif decide (n>(↑(length b):Int))
 then Q aO ⟨[(.cells [aF,(aH b),(ah a),fK])],[]⟩
 else (aS prog (λ_=>.none) (.slice 22 (.tmp 29) .none (.some (.tmp 30)) (.some (.tmp 31))) [(29,(aH b)),(30,(ah n)),(31,(ah n))] (aH (List.take k b))∧
 (aS prog (λ_=>.none) (.slice 22 (.tmp 38) (.some (.tmp 39)) .none .none) [(38,(aH b)),(39,(ah n))] (aH (drop k b))∧
 Q (aH (List.take k b)) ⟨[(.cells [aF,(aH (drop k b)),(ah (wrap i64 (a+n))),(ah e)])],[]⟩))))):=by kernel_rfl
theorem QG (b c:Bs)(n m:Int)(Q:TV→VT→Prop):ax prog ae bo (bB [(999998,.dead,none),(10,.vec 1 c .none,none)]) 300 (Vm c m (aE prog mO 0)) 0 mO [.vec 1 b .none,.val (.int .i64 n)] aD Q=
 (aS prog (λ_=>.none) (.slice 22 (.tmp 8) .none (.some (.tmp 9)) .none) [(8,(aH b)),(9,(ah n))] (aH c)∧
 ((aE prog mO (0:Nat)=aE prog mO (0:Nat))∧
 (((@Eq (Option Nat) .none .none)∧
 ((@Eq (Nat) 0 0)∧
 ((@Eq (List Nat) [] [])∧
 (True  ∧
 ((@Eq (VT) aD aD)∧
 ((@Eq (Bool) true true)∧
 (@Eq (List TV) [(.val (.int .u64 0)),(aH c),(ah (↑(length c):Int)),aB] [(.val (.int .u64 0)),(aH c),(ah (↑(length c):Int)),aB])))))))∧
 Q (.val (.int .u64 m)) aD))):=by kernel_rfl
theorem EG (b:Bs)(n z:Int)(j:Nat)(Q:Exit→List TV→VT→List Nat→Nat→Prop):vx prog ae bo (bB [(999998,.dead,none),(14,.elt (bT z),none)]) 300 aU none 0 (cC prog mO 0) (aI 23 Ct (Cu b n j)) aD [] (dw Ct Q)=
 (bif decide ((↑j:Int)<(↑(length b):Int))
 then (aS prog (λ_=>.none) (.indexAddr 22 (.tmp 10) (.tmp 12)) [(10,(aH b)),(12,(ah (↑j:Int)))] (.elt [(bh z)])∧
 Q .normal [(.val (.int .u64 (wrap u64 (↑(toNat (ofInt (IntKind.bits u64) (wrap u64 (n*(2:Int)^min (Int.toNat (8:Int)) (IntKind.bits u64))) ||| ofInt (IntKind.bits u64) (wrap u64 z))):Int)))),(aH b),(ah (↑(length b):Int)),(ah (wrap i64 ((↑j:Int)+(1:Int))))] aD [] 23)
 else Q (.exit 0) [(.val (.int .u64 n)),(aH b),(ah (↑(length b):Int)),(ah (↑j:Int))] aD [] 23):=by kernel_rfl
theorem QH (b:Bs)(a e n:Int)(Q:TV→VT→Prop):ax prog ae (aT [(yV,GU),(mO,GV)]) aR 300 aU 0 vX [.ptr 0 0,.val (.int .i64 n)] (cw (aG b a e)) Q=
 (((@Eq (Bool) true true)∧
 IsB (b))∧
 (bif decide ((↑(length (b9 n b e)):Int)<n)
 then Q (.val (.int .u64 0)) ⟨[(.cells [aF,(aH (ar n b e)),(ah (bE n b e a)),(ah (au n b e))])],[]⟩
 else ((IsB (b9 n b e)∧
 (vl (n)∧
 vm (n) (b9 n b e)))∧
 Q (.val (.int .u64 (dD n (b9 n b e)))) ⟨[(.cells [aF,(aH (ar n b e)),(ah (bE n b e a)),(ah (au n b e))])],[]⟩))):=by kernel_rfl
theorem QI (b:Bs)(a e n:Int)(Q:TV→VT→Prop):ax prog ae (aT [(yV,GU),(m5,mC)]) aR 300 aU 0 jK [.ptr 0 0,.val (.int .i64 n)] (cw (aG b a e)) Q=
 (((@Eq (Bool) true true)∧
 IsB (b))∧
 (IsB (b9 n b e)∧
 Q (aH (b9 n b e)) ⟨[(.cells [aF,(aH (ar n b e)),(ah (bE n b e a)),(ah (au n b e))])],[]⟩)):=by kernel_rfl
theorem QJ (b:Bs)(a e n:Int)(Q:TV→VT→Prop):ax prog ae (aT [(yV,GU),(ke,mA)]) aR 300 aU 0 GS [.ptr 0 0,.val (.int .i64 n)] (cw (aG b a e)) Q=
 (((@Eq (Bool) true true)∧
 IsB (b))∧
 (IsB (b9 n b e)∧
 Q lO ⟨[(.cells [aF,(aH (ar n b e)),(ah (bE n b e a)),(ah (au n b e))]),(.cells [aF,(aH (b9 n b e)),aB,aB])],[]⟩)):=by kernel_rfl
theorem QK (b:Bs)(a e:Int)(Q:TV→VT→Prop):ax prog ae bo aR 300 aU 0 kf [.ptr 0 0] (cw (aG b a e)) Q=
 (bif !av eql (k6 e (0:Int))
 then Q aB ⟨[(.cells [aF,(aH b),(ah a),(ah e)])],[]⟩
 else Q (ah (↑(length b):Int)) ⟨[(.cells [aF,(aH b),(ah a),(ah e)])],[]⟩):=by kernel_rfl
theorem QL (b:Bs)(a e:Int)(Q:TV→VT→Prop):ax prog ae bo aR 300 aU 0 jc [.ptr 0 0] (cw (aG b a e)) Q=
Q (ah e) ⟨[(.cells [aF,(aH b),(ah a),(ah e)])],[]⟩:=by kernel_rfl
theorem QM (b:Bs)(a e:Int)(Q:TV→VT→Prop):ax prog ae (aT [(kf,m4),(jK,Cp)]) aR 300 aU 0 GT [.ptr 0 0] (cw (aG b a e)) Q=
 (((@Eq (Bool) true true)∧
 IsB (b))∧
 (((@Eq (Bool) true true)∧
 IsB (b))∧
 Q (aH (b9 (bC b e) b e)) ⟨[(.cells [aF,(aH (ar (bC b e) b e)),(ah (bE (bC b e) b e a)),(ah (au (bC b e) b e))])],[]⟩)):=by kernel_rfl
theorem QN (b:Bs)(a e:Int)(Q:TV→VT→Prop):ax prog ae (aT [(vX,yW)]) aR 300 aU 0 iD [.ptr 0 0] (cw (aG b a e)) Q=
 (((@Eq (Bool) true true)∧
 (IsB (b)∧
 vl 1))∧
 Q (ah (wrap i64 (mZ (1:Int) b e))) ⟨[(.cells [aF,(aH (ar (1:Int) b e)),(ah (bE (1:Int) b e a)),(ah (au (1:Int) b e))])],[]⟩):=by kernel_rfl
theorem N4 (b:Bs)(a e:Int)(Q:TV→VT→Prop):ax prog ae (aT [(vX,yW)]) aR 300 aU 0 mn [.ptr 0 0] (cw (aG b a e)) Q=
 (((@Eq (Bool) true true)∧
 (IsB (b)∧
 vl 2))∧
 Q (ah (wrap i64 (mZ (2:Int) b e))) ⟨[(.cells [aF,(aH (ar (2:Int) b e)),(ah (bE (2:Int) b e a)),(ah (au (2:Int) b e))])],[]⟩):=by kernel_rfl
theorem N5 (b:Bs)(a e:Int)(Q:TV→VT→Prop):ax prog ae (aT [(vX,yW)]) aR 300 aU 0 Bc [.ptr 0 0] (cw (aG b a e)) Q=
 (((@Eq (Bool) true true)∧
 (IsB (b)∧
 vl 4))∧
 Q (jb (wrap u32 (mZ (4:Int) b e))) ⟨[(.cells [aF,(aH (ar (4:Int) b e)),(ah (bE (4:Int) b e a)),(ah (au (4:Int) b e))])],[]⟩):=by kernel_rfl
theorem N6 (b:Bs)(Q:TV→VT→Prop):ax prog ae (aT [(mO,GV)]) (bB [(999998,.dead,none),(12,.vec 1 b .none,none)]) 300 aU 0 uG [.vec 1 b .none,.val (.int .i64 0)] aD Q=
 (bif !decide ((0:Int)≤wrap i64 ((↑(length b):Int)-(4:Int)))
 then Q (.tup [cF,ak]) aD
 else (aS prog (λ_=>.none) (.slice 22 (.tmp 10) (.some (.tmp 11)) .none .none) [(10,(aH b)),(11,aB)] (aH b)∧
 ((IsB (b)∧
 (vl 4∧
 vm 4 (b)))∧
 Q (.tup [(jb (wrap u32 (dD (4:Int) b))),aF]) aD))):=by kernel_rfl
theorem ac:prog.follows .mixedOrders=true:=by kernel_rfl
theorem aa:eQ prog=true:=by kernel_rfl
theorem aV:eJ ae:=λ_ _ h=>by cases h
theorem rZ (q:IntKind)(x y:Int):av eql (aq (.int q x) (.int q y))=decide (x=y):=by
 simp [av,aq,cl,Bool.beq_eq_decide_eq]
theorem dJ (q:IntKind)(x y:Int):av neq (aq (.int q x) (.int q y))= !decide (x=y):=by
 simp [av,aq,cl,Bool.beq_eq_decide_eq]
theorem cJ:∃inf:TypeInfo,prog.info? 5=some inf∧inf.size=1∧inf.bytes+1=2∧inf.zero=some (.int .u8 0):=
 ⟨(prog.info? 5).getD default,by kernel_rfl,by kernel_rfl,by kernel_rfl,by kernel_rfl⟩
section
variable {x i m:Operand}{l:List (Nat × TV)}{b:Bs}{tok:Tok}{k k':IntKind}{z z':Int}{e:List TV}{n n':Nat}
theorem N7 (hx:aA ae l x=.vec 1 b tok)(hz:aA ae l i=.val (.int k z))(h0:0≤z)(he:b[z.toNat]?=some e):
  aS prog ae (.indexAddr 22 x i) l (.elt e):=by
 obtain ⟨inf,i1,i2,_,_⟩:=cJ
 exact fp (inf:=inf) underlying22 i1 (by rw [i2];exact hx) hz h0 he
theorem s8 (hx:aA ae l x=.vec 1 b tok)(hz:aA ae l i=.val (.int k z))(h0:0≤z)(hn:z.toNat=n)(he:n≤b.length):aS prog ae (.slice 22 x none (some i) none) l (.vec 1 (b.take n) .none):=by
 subst hn
 obtain ⟨inf,i1,i2,_,_⟩:=cJ
 have h:=Ci (inf:=inf) (P:=prog) (G:=ae) (x:=x) (i:=i) (l:=l) (es:=b) (tok:=tok) underlying22 i1 (by rw [i2];exact hx) hz h0 he
 rw [i2] at h
 exact h
theorem Ad (hx:aA ae l x=.vec 1 b tok)(hz:aA ae l i=.val (.int k z))(h0:0≤z)(hn:z.toNat=n)(he:n≤b.length):aS prog ae (.slice 22 x (some i) none none) l (.vec 1 (b.drop n) tok):=by
 subst hn
 obtain ⟨inf,i1,i2,_,_⟩:=cJ
 have h:=Cj (inf:=inf) (P:=prog) (G:=ae) (x:=x) (i:=i) (l:=l) (es:=b) (tok:=tok) underlying22 i1 (by rw [i2];exact hx) hz h0 he
 rw [i2] at h
 exact h
theorem IC (hx:aA ae l x=.vec 1 b tok)(hz:aA ae l i=.val (.int k z))(hm:aA ae l m=.val (.int k' z))(h0:0≤z)(hn:z.toNat=n)(he:n≤b.length):aS prog ae (.slice 22 x none (some i) (some m)) l (.vec 1 (b.take n) .none):=by
 subst hn
 obtain ⟨inf,i1,i2,_,_⟩:=cJ
 refine ⟨?_⟩
 have h1:ble z.toNat b.length=true:=ble_eq_true_of_le he
 have h2:ble 0 z.toNat=true:=ble_eq_true_of_le (zero_le _)
 have h3:ble z.toNat z.toNat=true:=ble_eq_true_of_le (le_refl _)
 simp [aW,hx,hz,hm,gB,underlying22,i1,i2,dS,ek,h0,h1,h2,h3]
theorem N8 {ro:Nat}{T T1:VT}{s:Operand}{es es2:Bs}{bn:Bool}{k n:Nat}(hs:cR T 1 (aA ae l s)=some (es,k,n,bn,T1))(hx:jr 1 (aA ae l x)=some es2)(hb:es.length+es2.length≤70368744177664):
  bp prog ae ro T (.call ⟨.builtin .append,#[s,x],#[22,22]⟩) l (.vec 1 (es++es2) (.tail k (n+es2.length))) {T1 with tails:=T1.tails.set k (n+es2.length,1,bn)}:=by
 obtain ⟨inf,i1,i2,i3,i4⟩:=cJ
 have h:=fq (inf:=inf) (P:=prog) (G:=ae) (ro:=ro) (T:=T) (T1:=T1) (t:=22) (tx:=22) (s:=s) (x:=x) (l:=l) (es:=es) (es2:=es2) (k:=k) (n:=n) (bn:=bn) underlying22 i1 i4 (by rw [i2];rfl) (by rw [i2];decide) (by kernel_rfl) (by rw [i2];exact hs) (by rw [i2];exact hx)
  (by rw [i3];omega)
 rw [i2] at h
 exact h
end
theorem Ld {ro:Nat}(objs:List VO)(c:Bs)(hc:c.length≤32000000)(s x:Nat)(hne:beq s x=false):bp prog ae ro ⟨objs,[]⟩ (.call ⟨.builtin .append,#[.tmp s,.tmp x],#[22,22]⟩) [(s,.vec 1 [] .full),(x,.vec 1 c .none)] (.vec 1 c (.tail 0 c.length)) ⟨objs,[(c.length,1,false)]⟩:=by
 have h:=N8 (ro:=ro) (T:=⟨objs,[]⟩) (T1:=⟨objs,[(0,1,false)]⟩) (s:=.tmp s) (x:=.tmp x) (l:= [(s,.vec 1 [] .full),(x,.vec 1 c .none)]) (es:= []) (es2:=c) (k:=0) (n:=0) (bn:=false)
  (by simp [aA,eF,cR]) (by simp [aA,eF,hne,jr]) (by simp only [length_nil];omega)
 simp only [List.nil_append,zero_add] at h
 exact h
theorem QO {b:Bs}(hb:IsB b):VCx prog ae 0 m5 [.vec 1 b .none] ⟨[],[]⟩ λx T'=>x=.vec 1 b .none∧T'=⟨[],[]⟩:=by
 refine VCx.asVec (Q:=λT'=>T'=⟨[],[]⟩) (VCx.keepQ 0 0 (le_refl _) (le_refl _) ?_)
 cases b with
 |nil=>exact aj ac aa ai ag (QC _) ⟨⟨.inl ⟨rfl,rfl⟩,rfl⟩,⟨.inr ⟨_,rfl⟩,rfl⟩⟩
 |cons r b=>
  refine aj ac aa ai ag (QD r b _) ⟨Ld [] (r::b) hb.small 5 6 rfl,.inr ⟨.none,?_⟩,rfl⟩
  have:=hb.ren (ap 0) (ap 0)
  simp only [TV.ren,Tok.ren]
  rw [show [r]++b=r::b from rfl,this];rfl
theorem pn:∀ro ys T K,mC ro ys T K→VCx prog ae ro m5 ys T K:=by
 intro ro ys T K hw
 unfold mC at hw
 split at hw
 ·rename_i b tok
  obtain ⟨hb,hk⟩:=hw
  exact VCx.loosePure aV (QO hb) (by simp [ea]) (by simp [aw,TV.ren,hb.ren,Tok.ren]) (λf h=>by simp only [TV.ren,hb.ren,Tok.ren]) hk
 ·exact hw.elim
theorem N9 {b:Bs}(hb:IsB b):VCx prog ae 0 ke [.vec 1 b .none] ⟨[],[]⟩ λx T'=>x=.ptr 0 0∧T'=⟨[aG b 0 0],[]⟩:=
 aj ac aa (aZ λp hp=>by obtain rfl:=mem_singleton.1 hp;exact pn) ag (QE b _) ⟨hb,rfl,rfl⟩
theorem uH:∀ro ys T K,mA ro ys T K→VCx prog ae ro ke ys T K:=IA aV λ_ hb=>N9 hb
def Ae (n:Int)(b:Bs)(a e:Int):VT:=⟨[aG (ar n b e) (bE n b e a) (au n b e)],[]⟩
theorem Oa (b:Bs)(a e n:Int):VCx prog ae 0 yV [.ptr 0 0,.val (.int .i64 n)] ⟨[aG b a e],[]⟩ λx T'=>x=.vec 1 (b9 n b e) .none∧T'=Ae n b a e:=by
 refine VCx.asVec (Q:=λT'=>T'=Ae n b a e) (aj ac aa ai ag (QF b a e n n.toNat _) ?_)
 by_cases he:e=0
 ·subst he
  have he:(0:Int)=0:=rfl
  refine bg (by rw [rZ,decide_eq_true he];rfl) ?_
  by_cases hn:n<0
  ·have hk:cU n b 0=false:=by simp only [cU,Bool.and_eq_false_iff,decide_eq_false_iff_not];omega
   refine bd (decide_eq_true hn) ⟨.inl ⟨rfl,by simp only [b9,hk,cond_false]⟩,?_⟩
   simp only [Ae,ar,bE,au,hk,cond_false,decide_true,decide_eq_true hn,cond_true];rfl
  ·refine bg (decide_eq_false hn) ?_
   by_cases hl:n≤b.length
   ·have hk:cU n b 0=true:=by simp only [cU,decide_true,decide_eq_true hl,decide_eq_true (show 0≤n by omega)];rfl
    have h1:n.toNat≤b.length:=by omega
    refine bg (decide_eq_false (by omega)) ⟨IC rfl rfl rfl (by omega) rfl h1,Ad rfl rfl (by omega) rfl h1,.inr ⟨.none,by simp only [b9,hk,cond_true]⟩,?_⟩
    simp only [Ae,ar,bE,au,hk,decide_true,decide_eq_false hn,decide_eq_true hl,cond_true,cond_false];rfl
   ·have hk:cU n b 0=false:=by simp only [cU,Bool.and_eq_false_iff,decide_eq_false_iff_not];omega
    refine bd (decide_eq_true (by omega)) ⟨.inl ⟨rfl,by simp only [b9,hk,cond_false]⟩,?_⟩
    simp only [Ae,ar,bE,au,hk,decide_true,decide_eq_false hn,decide_eq_false hl,cond_false,cond_true];rfl
 ·have hk:cU n b e=false:=by simp only [cU,Bool.and_eq_false_iff,decide_eq_false_iff_not];omega
  refine bd (by rw [rZ,decide_eq_false he];rfl) ⟨.inl ⟨rfl,by simp only [b9,hk,cond_false]⟩,?_⟩
  simp only [Ae,ar,bE,au,hk,decide_eq_false he,cond_false];rfl
theorem yX:∀ro ys T K,GU ro ys T K→VCx prog ae ro yV ys T K:=Iy aV λb a e n _=>Oa b a e n
theorem Ob {c:Bs}{j:Nat}{r:List TV}(h:c[j]?=some r):kF (c.take (j+1))=kF (c.take j)*256+gU r:=by
 rw [List.take_add_one,h];exact N3 _ _
theorem Ur {c:Bs}(h:IsB c){j:Nat}(hj:j<8):0≤kF (c.take j)∧(j<8→kF (c.take j)<72057594037927936):=by
 obtain ⟨⟨l,hl,hz⟩,_⟩:=h.take j
 have hlen:l.length≤7:=by
  have:=congrArg length hl
  simp only [bV,length_map,length_take] at this
  omega
 rw [hl]
 obtain ⟨h1,h2⟩:=sU hz
 refine ⟨h1,λ_=>Int.lt_of_lt_of_le h2 ?_⟩
 have h3:(256:Int)^l.length≤256^7:=by
  exact_mod_cast Nat.pow_le_pow_right (by decide:0<256) hlen
 exact h3
theorem ID (c:Bs)(hc:IsB c)(h8:c.length≤8)(K:KX)(hK:K .normal (aI 23 Ct (Cu c (kF c) c.length)) ⟨[],[]⟩ []):VWx prog ae none 0 (aE prog mO 0) (aI 23 Ct (Cu c 0 0)) ⟨[],[]⟩ [] K:=by
 let sl:Nat→List TV:=λj=>Cu c (kF (c.take j)) j
 let Post:Exit→List TV→VT→Prop:=λe vs T=>e=.normal∧vs=sl c.length∧T=⟨[],[]⟩
 refine dM (f:=mO) (id:=0) (by kernel_rfl) 23 Ct (λj=>c.length-j) sl (λ_=>⟨[],[]⟩) (λj=>j≤c.length) 0 0 (λ_ _=>⟨le_refl _,le_refl _⟩)
  Post (λj hj=> ?_) 0 (zero_le _) K (λe vs T ⟨h1,h2,h3⟩=> ?_)
 ·by_cases hlt:j<c.length
  ·have hs:c[j]?=some c[j]:=getElem?_eq_getElem hlt
   generalize c[j]=r at hs
   obtain ⟨z,rfl,hz0,hz1⟩:=hc.at hs
   have hw:=up j (by omega)
   obtain ⟨hb0,hb1⟩:=Ur hc (j:=j) (by omega)
   have hor:=cu hb0 (hb1 (by omega)) hz0 hz1
   refine bU ac aa ai ag (EG c (kF (c.take j)) z j _) ?_
   refine bd (decide_eq_true (by omega)) ⟨N7 rfl rfl (Int.natCast_nonneg _) (by rw [Int.toNat_natCast];exact hs),rfl,rfl,j+1,hlt,by simp only;omega,.inr ⟨rfl,?_⟩⟩
   rw [hor,hw]
   simp only [aw,TV.ren,hc.ren,Tok.ren]
   simp only [sl,Cu,Ob hs,gU,bT]
  ·obtain rfl:j=c.length:=by omega
   refine bU ac aa ai ag (EG c (kF (c.take c.length)) 0 c.length _) ?_
   exact bg (decide_eq_false (by omega)) ⟨rfl,rfl,rfl,rfl,rfl⟩
 ·subst h1 h2 h3
  simp only [sl,take_length]
  exact hK
theorem Le (c:Bs)(hc:IsB c)(h8:c.length≤8):dy prog ae (Vm c (kF c) (aE prog mO 0)):=bO λp hp=>by
 obtain rfl:=mem_singleton.1 hp
 exact cd λK hK=>ID c hc h8 K hK
theorem Oc {b:Bs}(hb:IsB b){n:Int}(hn:vl n)(hl:vm n b):VCx prog ae 0 mO [.vec 1 b .none,.val (.int .i64 n)] ⟨[],[]⟩ λx T'=>x=.val (.int .u64 (dD n b))∧T'=⟨[],[]⟩:=by
 obtain ⟨h0,h8⟩:=hn
 have h1:n.toNat≤b.length:=by unfold vm at hl;omega
 refine aj ac aa ai (Le (b.take n.toNat) (hb.take _) (by rw [length_take];omega)) (QG b (b.take n.toNat) n (kF (b.take n.toNat)) _) ?_
 exact ⟨s8 rfl rfl h0 rfl h1,rfl,⟨rfl,rfl,rfl,trivial,rfl,rfl,rfl⟩,rfl,rfl⟩
theorem EH:∀ro ys T K,GV ro ys T K→VCx prog ae ro mO ys T K:=by
 intro ro ys T K hw
 unfold GV at hw
 split at hw
 ·rename_i b tok n
  obtain ⟨⟨hb,hn,hl⟩,hk⟩:=hw
  exact VCx.loosePure aV (Oc hb hn hl) (by simp [ea]) (by simp [aw,TV.ren,hb.ren,Tok.ren]) (λf h=>rfl) hk
 ·exact hw.elim
theorem Od {b:Bs}(hb:IsB b)(a e:Int){n:Int}(hn:vl n):VCx prog ae 0 vX [.ptr 0 0,.val (.int .i64 n)] ⟨[aG b a e],[]⟩ λx T'=>x=.val (.int .u64 (mZ n b e))∧T'=Ae n b a e:=by
 refine aj ac aa (aZ λp hp=>by rcases mem_cons.1 hp with rfl | hp;exact yX;obtain rfl:=mem_singleton.1 hp;exact EH) ag (QH b a e n _) ⟨⟨rfl,hb⟩,?_⟩
 by_cases h:((b9 n b e).length:Int)<n
 ·exact bd (decide_eq_true h) ⟨by rw [Qj h],rfl⟩
 ·exact bg (decide_eq_false h) ⟨⟨ig hb,hn,by unfold vm;omega⟩,by rw [Qi hn.1 (by omega)],rfl⟩
theorem Oe:∀ro ys T K,yW ro ys T K→VCx prog ae ro vX ys T K:=by
 intro ro ys T K hw
 unfold yW at hw
 split at hw
 ·rename_i k n
  split at hw
  ·rename_i b a e ho
   obtain ⟨⟨hro,hb,hn⟩,hk⟩:=hw
   refine VCx.at1 (Q:=λx o' l'=>x=.val (.int .u64 (mZ n b e))∧o'=aG (ar n b e) (bE n b e a) (au n b e)∧l'= []) aV (le_of_ble_eq_true hro) ho rfl (bK hb a e _ _) (ys1:= [.ptr 0 0,.val (.int .i64 n)]) (by simp [aw,TV.ren,aL]) ((Od hb a e hn).mono λx T' ⟨h1,h2⟩=>⟨_,_,h2,h1,rfl,rfl⟩) ?_
   rintro x o' l' ⟨rfl,rfl,rfl⟩
   rw [bK (aC hb)]
   simpa [TV.ren] using hk
  ·exact hw.elim
 ·exact hw.elim
theorem Cv {f:FuncId}{kind:IntKind}{n:Nat}(hn:vl n)(hw:∀z:Int,0≤z→z<256^n→kind.wrap z=z)
  (h:∀(b:Bs) (a e:Int) (Q:TV→VT→Prop),IsB b→Q (.val (.int kind (kind.wrap (mZ n b e)))) (Ae n b a e)→VCx prog ae 0 f [.ptr 0 0] ⟨[aG b a e],[]⟩ Q):
  ∀ro ys T K,lu kind n ro ys T K→VCx prog ae ro f ys T K:=Qk aV λb a e hb=>by
 obtain ⟨h1,h2⟩:=Co (n:=n) hb e
 exact h b a e _ hb ⟨by rw [hw _ h1 h2,Cn],rfl⟩
theorem Cw:bu prog ae (aT [(vX,yW)]):=aZ λp hp=>by obtain rfl:=mem_singleton.1 hp;exact Oe
theorem qo:∀ro ys T K,lu .i64 1 ro ys T K→VCx prog ae ro iD ys T K:=
 Cv ⟨by decide,by decide⟩ (λz h0 h1=>by simp only [wrap,IntKind.bits,signed];simp;omega) λb a e _ hb hq=>aj ac aa Cw ag (QN b a e _) ⟨⟨rfl,hb,⟨by decide,by decide⟩⟩,hq⟩
theorem uI:∀ro ys T K,lu .i64 2 ro ys T K→VCx prog ae ro mn ys T K:=
 Cv ⟨by decide,by decide⟩ (λz h0 h1=>by simp only [wrap,IntKind.bits,signed];simp;omega) λb a e _ hb hq=>aj ac aa Cw ag (N4 b a e _) ⟨⟨rfl,hb,⟨by decide,by decide⟩⟩,hq⟩
theorem Of:∀ro ys T K,lu .u32 4 ro ys T K→VCx prog ae ro Bc ys T K:=
 Cv ⟨by decide,by decide⟩ (λz h0 h1=>by simp only [wrap,IntKind.bits,signed];simp;omega) λb a e _ hb hq=>aj ac aa Cw ag (N5 b a e _) ⟨⟨rfl,hb,⟨by decide,by decide⟩⟩,hq⟩
theorem s9:∀ro ys T K,Cp ro ys T K→VCx prog ae ro jK ys T K:=Iy aV λb a e n hb=>
 aj ac aa (aZ λp hp=>by rcases mem_cons.1 hp with rfl | hp;exact yX;obtain rfl:=mem_singleton.1 hp;exact pn) ag (QI b a e n _) ⟨⟨rfl,hb⟩,ig hb,rfl,rfl⟩
theorem QP:∀ro ys T K,xi ro ys T K→VCx prog ae ro GS ys T K:=K8 aV λb a e n hb=>
 aj ac aa (aZ λp hp=>by rcases mem_cons.1 hp with rfl | hp;exact yX;obtain rfl:=mem_singleton.1 hp;exact uH) ag (QJ b a e n _) ⟨⟨rfl,hb⟩,ig hb,rfl,rfl⟩
theorem oq:∀ro ys T K,m4 ro ys T K→VCx prog ae ro kf ys T K:=Ql aV λb a e hb=>by
 refine aj ac aa ai ag (QK b a e _) ?_
 by_cases he:e=0
 ·exact bg (by rw [rZ,decide_eq_true he];rfl) ⟨by simp only [bC,decide_eq_true he,cond_true],rfl⟩
 ·exact bd (by rw [rZ,decide_eq_false he];rfl) ⟨by simp only [bC,decide_eq_false he,cond_false],rfl⟩
theorem qp:∀ro ys T K,lv ro ys T K→VCx prog ae ro jc ys T K:=Qm aV λb a e _=>
 aj ac aa ai ag (QL b a e _) ⟨rfl,rfl⟩
theorem QR:∀ro ys T K,sV ro ys T K→VCx prog ae ro GT ys T K:=Iz aV λb a e hb=>
 aj ac aa (aZ λp hp=>by rcases mem_cons.1 hp with rfl | hp;exact oq;obtain rfl:=mem_singleton.1 hp;exact s9) ag (QM b a e _) ⟨⟨rfl,hb⟩,⟨rfl,hb⟩,rfl,rfl⟩
--bumped 32
theorem dE {z:Int}(h0:-1000000000000000≤z)(h1:z≤1000000000000000):i64.wrap z=z:=by
 simp only [wrap,IntKind.bits,signed];simp;omega
def ta (n:Int):Prop:=0≤n∧n≤32
def IE (n:Int):Int:=4294967296-2^(32-n).toNat
def lw (a n:Int):Int:=wrap .u32 (toNat (ofInt (IntKind.bits .u32) a&&&ofInt (IntKind.bits .u32) (IE n)):Nat)
abbrev cP:=144
abbrev rl:=135
abbrev lc:=119
abbrev ot:=95
def QS:be:=λ_ ys T K=>match ys with
 |[.val (.int .i64 n)]=>ta n∧K (.val (.int .u32 (IE n))) T
 |_=>False
def Af:be:=λ_ ys T K=>match ys with
 |[.agg [.val (.int .u32 a),.val (.int .i64 n)]]=>ta n∧K (.agg [.val (.int .u32 (lw a n)),.val (.int .i64 n)]) T
 |_=>False
def Ag (l:Bs):be:=λro ys T K=>match ys with
 |[.ptr k 0,.val (.int .i64 n)]=>match T.objs[k]? with
  |some (.cells [.val (.bool true),.vec 1 b .none,.val (.int .i64 a),.val (.int .i64 e)])=>((ble ro k=true∧IsB b)∧b9 n b e=l)∧K (.vec 1 l .none) {T with objs:=T.objs.set k (aG (ar n b e) (bE n b e a) (au n b e))}
  |_=>False
 |_=>False
theorem Og (Q:TV→VT→Prop):ax prog ae bo aR 300 aU 0 cP [.val (.int .i64 0)] aD Q=
Q cF aD:=by kernel_rfl
theorem Oh (Q:TV→VT→Prop):ax prog ae bo aR 300 aU 0 cP [.val (.int .i64 1)] aD Q=
Q (.val (.int .u32 2147483648)) aD:=by kernel_rfl
theorem Oi (Q:TV→VT→Prop):ax prog ae bo aR 300 aU 0 cP [.val (.int .i64 2)] aD Q=
Q (.val (.int .u32 3221225472)) aD:=by kernel_rfl
theorem Oj (Q:TV→VT→Prop):ax prog ae bo aR 300 aU 0 cP [.val (.int .i64 3)] aD Q=
Q (.val (.int .u32 3758096384)) aD:=by kernel_rfl
theorem Ol (Q:TV→VT→Prop):ax prog ae bo aR 300 aU 0 cP [.val (.int .i64 4)] aD Q=
Q (.val (.int .u32 4026531840)) aD:=by kernel_rfl
theorem Om (Q:TV→VT→Prop):ax prog ae bo aR 300 aU 0 cP [.val (.int .i64 5)] aD Q=
Q (.val (.int .u32 4160749568)) aD:=by kernel_rfl
theorem Oo (Q:TV→VT→Prop):ax prog ae bo aR 300 aU 0 cP [.val (.int .i64 6)] aD Q=
Q (.val (.int .u32 4227858432)) aD:=by kernel_rfl
theorem Oq (Q:TV→VT→Prop):ax prog ae bo aR 300 aU 0 cP [.val (.int .i64 7)] aD Q=
Q (.val (.int .u32 4261412864)) aD:=by kernel_rfl
theorem Ot (Q:TV→VT→Prop):ax prog ae bo aR 300 aU 0 cP [.val (.int .i64 8)] aD Q=
Q (.val (.int .u32 4278190080)) aD:=by kernel_rfl
theorem Ou (Q:TV→VT→Prop):ax prog ae bo aR 300 aU 0 cP [.val (.int .i64 9)] aD Q=
Q (.val (.int .u32 4286578688)) aD:=by kernel_rfl
theorem Lf (Q:TV→VT→Prop):ax prog ae bo aR 300 aU 0 cP [.val (.int .i64 10)] aD Q=
Q (.val (.int .u32 4290772992)) aD:=by kernel_rfl
theorem Lg (Q:TV→VT→Prop):ax prog ae bo aR 300 aU 0 cP [.val (.int .i64 11)] aD Q=
Q (.val (.int .u32 4292870144)) aD:=by kernel_rfl
theorem Lh (Q:TV→VT→Prop):ax prog ae bo aR 300 aU 0 cP [.val (.int .i64 12)] aD Q=
Q (.val (.int .u32 4293918720)) aD:=by kernel_rfl
theorem Li (Q:TV→VT→Prop):ax prog ae bo aR 300 aU 0 cP [.val (.int .i64 13)] aD Q=
Q (.val (.int .u32 4294443008)) aD:=by kernel_rfl
theorem Lj (Q:TV→VT→Prop):ax prog ae bo aR 300 aU 0 cP [.val (.int .i64 14)] aD Q=
Q (.val (.int .u32 4294705152)) aD:=by kernel_rfl
theorem Lk (Q:TV→VT→Prop):ax prog ae bo aR 300 aU 0 cP [.val (.int .i64 15)] aD Q=
Q (.val (.int .u32 4294836224)) aD:=by kernel_rfl
theorem Ll (Q:TV→VT→Prop):ax prog ae bo aR 300 aU 0 cP [.val (.int .i64 16)] aD Q=
Q (.val (.int .u32 4294901760)) aD:=by kernel_rfl
theorem Lm (Q:TV→VT→Prop):ax prog ae bo aR 300 aU 0 cP [.val (.int .i64 17)] aD Q=
Q (.val (.int .u32 4294934528)) aD:=by kernel_rfl
theorem Ln (Q:TV→VT→Prop):ax prog ae bo aR 300 aU 0 cP [.val (.int .i64 18)] aD Q=
Q (.val (.int .u32 4294950912)) aD:=by kernel_rfl
theorem Lo (Q:TV→VT→Prop):ax prog ae bo aR 300 aU 0 cP [.val (.int .i64 19)] aD Q=
Q (.val (.int .u32 4294959104)) aD:=by kernel_rfl
theorem Lp (Q:TV→VT→Prop):ax prog ae bo aR 300 aU 0 cP [.val (.int .i64 20)] aD Q=
Q (.val (.int .u32 4294963200)) aD:=by kernel_rfl
theorem Lq (Q:TV→VT→Prop):ax prog ae bo aR 300 aU 0 cP [.val (.int .i64 21)] aD Q=
Q (.val (.int .u32 4294965248)) aD:=by kernel_rfl
theorem Lr (Q:TV→VT→Prop):ax prog ae bo aR 300 aU 0 cP [.val (.int .i64 22)] aD Q=
Q (.val (.int .u32 4294966272)) aD:=by kernel_rfl
theorem Ls (Q:TV→VT→Prop):ax prog ae bo aR 300 aU 0 cP [.val (.int .i64 23)] aD Q=
Q (.val (.int .u32 4294966784)) aD:=by kernel_rfl
theorem Lt (Q:TV→VT→Prop):ax prog ae bo aR 300 aU 0 cP [.val (.int .i64 24)] aD Q=
Q (.val (.int .u32 4294967040)) aD:=by kernel_rfl
theorem Lu (Q:TV→VT→Prop):ax prog ae bo aR 300 aU 0 cP [.val (.int .i64 25)] aD Q=
Q (.val (.int .u32 4294967168)) aD:=by kernel_rfl
theorem Lv (Q:TV→VT→Prop):ax prog ae bo aR 300 aU 0 cP [.val (.int .i64 26)] aD Q=
Q (.val (.int .u32 4294967232)) aD:=by kernel_rfl
theorem Lw (Q:TV→VT→Prop):ax prog ae bo aR 300 aU 0 cP [.val (.int .i64 27)] aD Q=
Q (.val (.int .u32 4294967264)) aD:=by kernel_rfl
theorem Lx (Q:TV→VT→Prop):ax prog ae bo aR 300 aU 0 cP [.val (.int .i64 28)] aD Q=
Q (.val (.int .u32 4294967280)) aD:=by kernel_rfl
theorem Ly (Q:TV→VT→Prop):ax prog ae bo aR 300 aU 0 cP [.val (.int .i64 29)] aD Q=
Q (.val (.int .u32 4294967288)) aD:=by kernel_rfl
theorem LA (Q:TV→VT→Prop):ax prog ae bo aR 300 aU 0 cP [.val (.int .i64 30)] aD Q=
Q (.val (.int .u32 4294967292)) aD:=by kernel_rfl
theorem LB (Q:TV→VT→Prop):ax prog ae bo aR 300 aU 0 cP [.val (.int .i64 31)] aD Q=
Q (.val (.int .u32 4294967294)) aD:=by kernel_rfl
theorem LC (Q:TV→VT→Prop):ax prog ae bo aR 300 aU 0 cP [.val (.int .i64 32)] aD Q=
Q (.val (.int .u32 4294967295)) aD:=by kernel_rfl
theorem QT (a n:Int)(Q:TV→VT→Prop):ax prog ae (aT [(cP,QS)]) (bB [(999999,.dead,none)]) 300 aU 0 rl [.agg [.val (.int .u32 a),.val (.int .i64 n)]] aD Q=
 (ta (if (32:Int)<if (0:Int)>n then (0:Int) else n then (32:Int) else if (0:Int)>n then (0:Int) else n)∧
 Q (.agg [(jb (wrap u32 (↑(toNat (ofInt (IntKind.bits u32) a&&&ofInt (IntKind.bits u32) (IE (if (32:Int)<if (0:Int)>n then (0:Int) else n then (32:Int) else if (0:Int)>n then (0:Int) else n)))):Int))),(ah (if (32:Int)<if (0:Int)>n then (0:Int) else n then (32:Int) else if (0:Int)>n then (0:Int) else n))]) ⟨[(nn a n),(nn (wrap u32 (↑(toNat (ofInt (IntKind.bits u32) a&&&ofInt (IntKind.bits u32) (IE (if (32:Int)<if (0:Int)>n then (0:Int) else n then (32:Int) else if (0:Int)>n then (0:Int) else n)))):Int)) (if (32:Int)<if (0:Int)>n then (0:Int) else n then (32:Int) else if (0:Int)>n then (0:Int) else n))],[]⟩):=by kernel_rfl
abbrev kg (b:Bs)(e:Int)(a:Int):TV:=(ah (bE (wrap i64 (tdiv (wrap i64 (wrap i64 (aN (1:Nat) b e+(8:Int))-(1:Int))) (8:Int))) (ar (↑(1:Nat):Int) b e) (au (↑(1:Nat):Int) b e) (bE (↑(1:Nat):Int) b e a)))
abbrev ki (b:Bs)(e:Int):TV:=(aH (ar (wrap i64 (tdiv (wrap i64 (wrap i64 (aN (1:Nat) b e+(8:Int))-(1:Int))) (8:Int))) (ar (↑(1:Nat):Int) b e) (au (↑(1:Nat):Int) b e)))
abbrev ko (b:Bs)(e:Int):TV:=(ah (au (wrap i64 (tdiv (wrap i64 (wrap i64 (aN (1:Nat) b e+(8:Int))-(1:Int))) (8:Int))) (ar (↑(1:Nat):Int) b e) (au (↑(1:Nat):Int) b e)))
theorem Ov (b:Bs)(a e:Int)(Q:TV→VT→Prop):ax prog ae (aT [(iD,lu .i64 1),(jc,lv),(jK,Ag []),(rl,Af)]) aR 300 aU 0 lc [.ptr 0 0] (cw (aG b a e)) Q=
 (((@Eq (Bool) true true)∧
 IsB (b))∧
 (((@Eq (Bool) true true)∧
 IsB (ar (↑(1:Nat):Int) b e))∧
 (bif av neq (k6 (au (↑(1:Nat):Int) b e) (0:Int))
 then Q gY ⟨[(.cells [aF,(aH (ar (↑(1:Nat):Int) b e)),(ah (bE (↑(1:Nat):Int) b e a)),(ah (au (↑(1:Nat):Int) b e))]),gX],[]⟩
 else (bif decide (aN (1:Nat) b e>(32:Int))
 then Q gY ⟨[(.cells [aF,(aH (ar (↑(1:Nat):Int) b e)),(ah (bE (↑(1:Nat):Int) b e a)),(ah (au (↑(1:Nat):Int) b e))]),gX],[]⟩
 else ((((@Eq (Bool) true true)∧
 IsB (ar (↑(1:Nat):Int) b e))∧
 (@Eq (Bs) (b9 (wrap i64 (tdiv (wrap i64 (wrap i64 (aN (1:Nat) b e+(8:Int))-(1:Int))) (8:Int))) (ar (↑(1:Nat):Int) b e) (au (↑(1:Nat):Int) b e)) []))∧
 (((@Eq (Bool) true true)∧
 IsB (ar (wrap i64 (tdiv (wrap i64 (wrap i64 (aN (1:Nat) b e+(8:Int))-(1:Int))) (8:Int))) (ar (↑(1:Nat):Int) b e) (au (↑(1:Nat):Int) b e)))∧
 (bif av neq (k6 (au (wrap i64 (tdiv (wrap i64 (wrap i64 (aN (1:Nat) b e+(8:Int))-(1:Int))) (8:Int))) (ar (↑(1:Nat):Int) b e) (au (↑(1:Nat):Int) b e)) (0:Int))
 then Q gY ⟨[(.cells [aF,(ki b e),(kg b e a),(ko b e)]),gX,MT],[]⟩
 else (ta (aN (1:Nat) b e)∧
 Q (xp (lw
  (wrap u32
   (wrap u64
    (↑(toNat
      (ofInt (IntKind.bits u64)
        (wrap u64
         (wrap u64
           (↑(toNat
             (ofInt (IntKind.bits u64)
               (wrap u64
                (wrap u64
                  (↑(toNat
                    (ofInt (IntKind.bits u64)
                      (wrap u64
                       (wrap u64 (↑(toNat (ofInt (IntKind.bits u64) (wrap u64 ((0:Int)*(2:Int)^min (Int.toNat (8:Int)) (IntKind.bits u64))) ||| ofInt (IntKind.bits u64) (wrap u64 (0:Int)))):Int)*
                        (2:Int)^min (Int.toNat (8:Int)) (IntKind.bits u64))) |||
                     ofInt (IntKind.bits u64) (wrap u64 (0:Int)))):
                   Int)*
                 (2:Int)^min (Int.toNat (8:Int)) (IntKind.bits u64))) |||
              ofInt (IntKind.bits u64) (wrap u64 (0:Int)))):
            Int)*
          (2:Int)^min (Int.toNat (8:Int)) (IntKind.bits u64))) |||
       ofInt (IntKind.bits u64) (wrap u64 (0:Int)))):
     Int)))
  (aN (1:Nat) b e)) (aN (1:Nat) b e)) ⟨[(.cells [aF,(ki b e),(kg b e a),(ko b e)]),(nn (lw
  (wrap u32
   (wrap u64
    (↑(toNat
      (ofInt (IntKind.bits u64)
        (wrap u64
         (wrap u64
           (↑(toNat
             (ofInt (IntKind.bits u64)
               (wrap u64
                (wrap u64
                  (↑(toNat
                    (ofInt (IntKind.bits u64)
                      (wrap u64
                       (wrap u64 (↑(toNat (ofInt (IntKind.bits u64) (wrap u64 ((0:Int)*(2:Int)^min (Int.toNat (8:Int)) (IntKind.bits u64))) ||| ofInt (IntKind.bits u64) (wrap u64 (0:Int)))):Int)*
                        (2:Int)^min (Int.toNat (8:Int)) (IntKind.bits u64))) |||
                     ofInt (IntKind.bits u64) (wrap u64 (0:Int)))):
                   Int)*
                 (2:Int)^min (Int.toNat (8:Int)) (IntKind.bits u64))) |||
              ofInt (IntKind.bits u64) (wrap u64 (0:Int)))):
            Int)*
          (2:Int)^min (Int.toNat (8:Int)) (IntKind.bits u64))) |||
       ofInt (IntKind.bits u64) (wrap u64 (0:Int)))):
     Int)))
  (aN (1:Nat) b e)) (aN (1:Nat) b e)),MT],[]⟩)))))))):=by kernel_rfl
theorem Ow (b:Bs)(a e:Int)(z0:Int)(Q:TV→VT→Prop):ax prog ae (aT [(iD,lu .i64 1),(jc,lv),(jK,Ag [bT z0]),(rl,Af)]) aR 300 aU 0 lc [.ptr 0 0] (cw (aG b a e)) Q=
 (((@Eq (Bool) true true)∧
 IsB (b))∧
 (((@Eq (Bool) true true)∧
 IsB (ar (↑(1:Nat):Int) b e))∧
 (bif av neq (k6 (au (↑(1:Nat):Int) b e) (0:Int))
 then Q gY ⟨[(.cells [aF,(aH (ar (↑(1:Nat):Int) b e)),(ah (bE (↑(1:Nat):Int) b e a)),(ah (au (↑(1:Nat):Int) b e))]),gX],[]⟩
 else (bif decide (aN (1:Nat) b e>(32:Int))
 then Q gY ⟨[(.cells [aF,(aH (ar (↑(1:Nat):Int) b e)),(ah (bE (↑(1:Nat):Int) b e a)),(ah (au (↑(1:Nat):Int) b e))]),gX],[]⟩
 else ((((@Eq (Bool) true true)∧
 IsB (ar (↑(1:Nat):Int) b e))∧
 (@Eq (Bs) (b9 (wrap i64 (tdiv (wrap i64 (wrap i64 (aN (1:Nat) b e+(8:Int))-(1:Int))) (8:Int))) (ar (↑(1:Nat):Int) b e) (au (↑(1:Nat):Int) b e)) [(gW z0)]))∧
 (((@Eq (Bool) true true)∧
 IsB (ar (wrap i64 (tdiv (wrap i64 (wrap i64 (aN (1:Nat) b e+(8:Int))-(1:Int))) (8:Int))) (ar (↑(1:Nat):Int) b e) (au (↑(1:Nat):Int) b e)))∧
 (bif av neq (k6 (au (wrap i64 (tdiv (wrap i64 (wrap i64 (aN (1:Nat) b e+(8:Int))-(1:Int))) (8:Int))) (ar (↑(1:Nat):Int) b e) (au (↑(1:Nat):Int) b e)) (0:Int))
 then Q gY ⟨[(.cells [aF,(ki b e),(kg b e a),(ko b e)]),gX,(MS z0)],[]⟩
 else (ta (aN (1:Nat) b e)∧
 Q (xp (lw
  (wrap u32
   (wrap u64
    (↑(toNat
      (ofInt (IntKind.bits u64)
        (wrap u64
         (wrap u64
           (↑(toNat
             (ofInt (IntKind.bits u64)
               (wrap u64
                (wrap u64
                  (↑(toNat
                    (ofInt (IntKind.bits u64)
                      (wrap u64
                       (wrap u64 (↑(toNat (ofInt (IntKind.bits u64) (wrap u64 ((0:Int)*(2:Int)^min (Int.toNat (8:Int)) (IntKind.bits u64))) ||| ofInt (IntKind.bits u64) (wrap u64 z0))):Int)*(2:Int)^min (Int.toNat (8:Int)) (IntKind.bits u64))) |||
                     ofInt (IntKind.bits u64) (wrap u64 (0:Int)))):
                   Int)*
                 (2:Int)^min (Int.toNat (8:Int)) (IntKind.bits u64))) |||
              ofInt (IntKind.bits u64) (wrap u64 (0:Int)))):
            Int)*
          (2:Int)^min (Int.toNat (8:Int)) (IntKind.bits u64))) |||
       ofInt (IntKind.bits u64) (wrap u64 (0:Int)))):
     Int)))
  (aN (1:Nat) b e)) (aN (1:Nat) b e)) ⟨[(.cells [aF,(ki b e),(kg b e a),(ko b e)]),(nn (lw
  (wrap u32
   (wrap u64
    (↑(toNat
      (ofInt (IntKind.bits u64)
        (wrap u64
         (wrap u64
           (↑(toNat
             (ofInt (IntKind.bits u64)
               (wrap u64
                (wrap u64
                  (↑(toNat
                    (ofInt (IntKind.bits u64)
                      (wrap u64
                       (wrap u64 (↑(toNat (ofInt (IntKind.bits u64) (wrap u64 ((0:Int)*(2:Int)^min (Int.toNat (8:Int)) (IntKind.bits u64))) ||| ofInt (IntKind.bits u64) (wrap u64 z0))):Int)*(2:Int)^min (Int.toNat (8:Int)) (IntKind.bits u64))) |||
                     ofInt (IntKind.bits u64) (wrap u64 (0:Int)))):
                   Int)*
                 (2:Int)^min (Int.toNat (8:Int)) (IntKind.bits u64))) |||
              ofInt (IntKind.bits u64) (wrap u64 (0:Int)))):
            Int)*
          (2:Int)^min (Int.toNat (8:Int)) (IntKind.bits u64))) |||
       ofInt (IntKind.bits u64) (wrap u64 (0:Int)))):
     Int)))
  (aN (1:Nat) b e)) (aN (1:Nat) b e)),(MS z0)],[]⟩)))))))):=by kernel_rfl
theorem Ox (b:Bs)(a e:Int)(z0 z1:Int)(Q:TV→VT→Prop):ax prog ae (aT [(iD,lu .i64 1),(jc,lv),(jK,Ag [bT z0,bT z1]),(rl,Af)]) aR 300 aU 0 lc [.ptr 0 0] (cw (aG b a e)) Q=
 (((@Eq (Bool) true true)∧
 IsB (b))∧
 (((@Eq (Bool) true true)∧
 IsB (ar (↑(1:Nat):Int) b e))∧
 (bif av neq (k6 (au (↑(1:Nat):Int) b e) (0:Int))
 then Q gY ⟨[(.cells [aF,(aH (ar (↑(1:Nat):Int) b e)),(ah (bE (↑(1:Nat):Int) b e a)),(ah (au (↑(1:Nat):Int) b e))]),gX],[]⟩
 else (bif decide (aN (1:Nat) b e>(32:Int))
 then Q gY ⟨[(.cells [aF,(aH (ar (↑(1:Nat):Int) b e)),(ah (bE (↑(1:Nat):Int) b e a)),(ah (au (↑(1:Nat):Int) b e))]),gX],[]⟩
 else ((((@Eq (Bool) true true)∧
 IsB (ar (↑(1:Nat):Int) b e))∧
 (@Eq (Bs) (b9 (wrap i64 (tdiv (wrap i64 (wrap i64 (aN (1:Nat) b e+(8:Int))-(1:Int))) (8:Int))) (ar (↑(1:Nat):Int) b e) (au (↑(1:Nat):Int) b e)) [(gW z0),(gW z1)]))∧
 (((@Eq (Bool) true true)∧
 IsB (ar (wrap i64 (tdiv (wrap i64 (wrap i64 (aN (1:Nat) b e+(8:Int))-(1:Int))) (8:Int))) (ar (↑(1:Nat):Int) b e) (au (↑(1:Nat):Int) b e)))∧
 (bif av neq (k6 (au (wrap i64 (tdiv (wrap i64 (wrap i64 (aN (1:Nat) b e+(8:Int))-(1:Int))) (8:Int))) (ar (↑(1:Nat):Int) b e) (au (↑(1:Nat):Int) b e)) (0:Int))
 then Q gY ⟨[(.cells [aF,(ki b e),(kg b e a),(ko b e)]),gX,(.cells [(bh z0),(bh z1),jD,jD])],[]⟩
 else (ta (aN (1:Nat) b e)∧
 Q (xp (lw
  (wrap u32
   (wrap u64
    (↑(toNat
      (ofInt (IntKind.bits u64)
        (wrap u64
         (wrap u64
           (↑(toNat
             (ofInt (IntKind.bits u64)
               (wrap u64
                (wrap u64
                  (↑(toNat
                    (ofInt (IntKind.bits u64)
                      (wrap u64
                       (wrap u64 (↑(toNat (ofInt (IntKind.bits u64) (wrap u64 ((0:Int)*(2:Int)^min (Int.toNat (8:Int)) (IntKind.bits u64))) ||| ofInt (IntKind.bits u64) (wrap u64 z0))):Int)*(2:Int)^min (Int.toNat (8:Int)) (IntKind.bits u64))) |||
                     ofInt (IntKind.bits u64) (wrap u64 z1))):
                   Int)*
                 (2:Int)^min (Int.toNat (8:Int)) (IntKind.bits u64))) |||
              ofInt (IntKind.bits u64) (wrap u64 (0:Int)))):
            Int)*
          (2:Int)^min (Int.toNat (8:Int)) (IntKind.bits u64))) |||
       ofInt (IntKind.bits u64) (wrap u64 (0:Int)))):
     Int)))
  (aN (1:Nat) b e)) (aN (1:Nat) b e)) ⟨[(.cells [aF,(ki b e),(kg b e a),(ko b e)]),(nn (lw
  (wrap u32
   (wrap u64
    (↑(toNat
      (ofInt (IntKind.bits u64)
        (wrap u64
         (wrap u64
           (↑(toNat
             (ofInt (IntKind.bits u64)
               (wrap u64
                (wrap u64
                  (↑(toNat
                    (ofInt (IntKind.bits u64)
                      (wrap u64
                       (wrap u64 (↑(toNat (ofInt (IntKind.bits u64) (wrap u64 ((0:Int)*(2:Int)^min (Int.toNat (8:Int)) (IntKind.bits u64))) ||| ofInt (IntKind.bits u64) (wrap u64 z0))):Int)*(2:Int)^min (Int.toNat (8:Int)) (IntKind.bits u64))) |||
                     ofInt (IntKind.bits u64) (wrap u64 z1))):
                   Int)*
                 (2:Int)^min (Int.toNat (8:Int)) (IntKind.bits u64))) |||
              ofInt (IntKind.bits u64) (wrap u64 (0:Int)))):
            Int)*
          (2:Int)^min (Int.toNat (8:Int)) (IntKind.bits u64))) |||
       ofInt (IntKind.bits u64) (wrap u64 (0:Int)))):
     Int)))
  (aN (1:Nat) b e)) (aN (1:Nat) b e)),(.cells [(bh z0),(bh z1),jD,jD])],[]⟩)))))))):=by kernel_rfl
theorem Oy (b:Bs)(a e:Int)(z0 z1 z2:Int)(Q:TV→VT→Prop):ax prog ae (aT [(iD,lu .i64 1),(jc,lv),(jK,Ag [bT z0,bT z1,bT z2]),(rl,Af)]) aR 300 aU 0 lc [.ptr 0 0] (cw (aG b a e)) Q=
 (((@Eq (Bool) true true)∧
 IsB (b))∧
 (((@Eq (Bool) true true)∧
 IsB (ar (↑(1:Nat):Int) b e))∧
 (bif av neq (k6 (au (↑(1:Nat):Int) b e) (0:Int))
 then Q gY ⟨[(.cells [aF,(aH (ar (↑(1:Nat):Int) b e)),(ah (bE (↑(1:Nat):Int) b e a)),(ah (au (↑(1:Nat):Int) b e))]),gX],[]⟩
 else (bif decide (aN (1:Nat) b e>(32:Int))
 then Q gY ⟨[(.cells [aF,(aH (ar (↑(1:Nat):Int) b e)),(ah (bE (↑(1:Nat):Int) b e a)),(ah (au (↑(1:Nat):Int) b e))]),gX],[]⟩
 else ((((@Eq (Bool) true true)∧
 IsB (ar (↑(1:Nat):Int) b e))∧
 (@Eq (Bs) (b9 (wrap i64 (tdiv (wrap i64 (wrap i64 (aN (1:Nat) b e+(8:Int))-(1:Int))) (8:Int))) (ar (↑(1:Nat):Int) b e) (au (↑(1:Nat):Int) b e)) [(gW z0),(gW z1),(gW z2)]))∧
 (((@Eq (Bool) true true)∧
 IsB (ar (wrap i64 (tdiv (wrap i64 (wrap i64 (aN (1:Nat) b e+(8:Int))-(1:Int))) (8:Int))) (ar (↑(1:Nat):Int) b e) (au (↑(1:Nat):Int) b e)))∧
 (bif av neq (k6 (au (wrap i64 (tdiv (wrap i64 (wrap i64 (aN (1:Nat) b e+(8:Int))-(1:Int))) (8:Int))) (ar (↑(1:Nat):Int) b e) (au (↑(1:Nat):Int) b e)) (0:Int))
 then Q gY ⟨[(.cells [aF,(ki b e),(kg b e a),(ko b e)]),gX,(.cells [(bh z0),(bh z1),(bh z2),jD])],[]⟩
 else (ta (aN (1:Nat) b e)∧
 Q (xp (lw
  (wrap u32
   (wrap u64
    (↑(toNat
      (ofInt (IntKind.bits u64)
        (wrap u64
         (wrap u64
           (↑(toNat
             (ofInt (IntKind.bits u64)
               (wrap u64
                (wrap u64
                  (↑(toNat
                    (ofInt (IntKind.bits u64)
                      (wrap u64
                       (wrap u64 (↑(toNat (ofInt (IntKind.bits u64) (wrap u64 ((0:Int)*(2:Int)^min (Int.toNat (8:Int)) (IntKind.bits u64))) ||| ofInt (IntKind.bits u64) (wrap u64 z0))):Int)*(2:Int)^min (Int.toNat (8:Int)) (IntKind.bits u64))) |||
                     ofInt (IntKind.bits u64) (wrap u64 z1))):
                   Int)*
                 (2:Int)^min (Int.toNat (8:Int)) (IntKind.bits u64))) |||
              ofInt (IntKind.bits u64) (wrap u64 z2))):
            Int)*
          (2:Int)^min (Int.toNat (8:Int)) (IntKind.bits u64))) |||
       ofInt (IntKind.bits u64) (wrap u64 (0:Int)))):
     Int)))
  (aN (1:Nat) b e)) (aN (1:Nat) b e)) ⟨[(.cells [aF,(ki b e),(kg b e a),(ko b e)]),(nn (lw
  (wrap u32
   (wrap u64
    (↑(toNat
      (ofInt (IntKind.bits u64)
        (wrap u64
         (wrap u64
           (↑(toNat
             (ofInt (IntKind.bits u64)
               (wrap u64
                (wrap u64
                  (↑(toNat
                    (ofInt (IntKind.bits u64)
                      (wrap u64
                       (wrap u64 (↑(toNat (ofInt (IntKind.bits u64) (wrap u64 ((0:Int)*(2:Int)^min (Int.toNat (8:Int)) (IntKind.bits u64))) ||| ofInt (IntKind.bits u64) (wrap u64 z0))):Int)*(2:Int)^min (Int.toNat (8:Int)) (IntKind.bits u64))) |||
                     ofInt (IntKind.bits u64) (wrap u64 z1))):
                   Int)*
                 (2:Int)^min (Int.toNat (8:Int)) (IntKind.bits u64))) |||
              ofInt (IntKind.bits u64) (wrap u64 z2))):
            Int)*
          (2:Int)^min (Int.toNat (8:Int)) (IntKind.bits u64))) |||
       ofInt (IntKind.bits u64) (wrap u64 (0:Int)))):
     Int)))
  (aN (1:Nat) b e)) (aN (1:Nat) b e)),(.cells [(bh z0),(bh z1),(bh z2),jD])],[]⟩)))))))):=by kernel_rfl
theorem Oz (b:Bs)(a e:Int)(z0 z1 z2 z3:Int)(Q:TV→VT→Prop):ax prog ae (aT [(iD,lu .i64 1),(jc,lv),(jK,Ag [bT z0,bT z1,bT z2,bT z3]),(rl,Af)]) aR 300 aU 0 lc [.ptr 0 0] (cw (aG b a e)) Q=
 (((@Eq (Bool) true true)∧
 IsB (b))∧
 (((@Eq (Bool) true true)∧
 IsB (ar (↑(1:Nat):Int) b e))∧
 (bif av neq (k6 (au (↑(1:Nat):Int) b e) (0:Int))
 then Q gY ⟨[(.cells [aF,(aH (ar (↑(1:Nat):Int) b e)),(ah (bE (↑(1:Nat):Int) b e a)),(ah (au (↑(1:Nat):Int) b e))]),gX],[]⟩
 else (bif decide (aN (1:Nat) b e>(32:Int))
 then Q gY ⟨[(.cells [aF,(aH (ar (↑(1:Nat):Int) b e)),(ah (bE (↑(1:Nat):Int) b e a)),(ah (au (↑(1:Nat):Int) b e))]),gX],[]⟩
 else ((((@Eq (Bool) true true)∧
 IsB (ar (↑(1:Nat):Int) b e))∧
 (@Eq (Bs) (b9 (wrap i64 (tdiv (wrap i64 (wrap i64 (aN (1:Nat) b e+(8:Int))-(1:Int))) (8:Int))) (ar (↑(1:Nat):Int) b e) (au (↑(1:Nat):Int) b e)) [(gW z0),(gW z1),(gW z2),(gW z3)]))∧
 (((@Eq (Bool) true true)∧
 IsB (ar (wrap i64 (tdiv (wrap i64 (wrap i64 (aN (1:Nat) b e+(8:Int))-(1:Int))) (8:Int))) (ar (↑(1:Nat):Int) b e) (au (↑(1:Nat):Int) b e)))∧
 (bif av neq (k6 (au (wrap i64 (tdiv (wrap i64 (wrap i64 (aN (1:Nat) b e+(8:Int))-(1:Int))) (8:Int))) (ar (↑(1:Nat):Int) b e) (au (↑(1:Nat):Int) b e)) (0:Int))
 then Q gY ⟨[(.cells [aF,(ki b e),(kg b e a),(ko b e)]),gX,(.cells [(bh z0),(bh z1),(bh z2),(bh z3)])],[]⟩
 else (ta (aN (1:Nat) b e)∧
 Q (xp (lw
  (wrap u32
   (wrap u64
    (↑(toNat
      (ofInt (IntKind.bits u64)
        (wrap u64
         (wrap u64
           (↑(toNat
             (ofInt (IntKind.bits u64)
               (wrap u64
                (wrap u64
                  (↑(toNat
                    (ofInt (IntKind.bits u64)
                      (wrap u64
                       (wrap u64 (↑(toNat (ofInt (IntKind.bits u64) (wrap u64 ((0:Int)*(2:Int)^min (Int.toNat (8:Int)) (IntKind.bits u64))) ||| ofInt (IntKind.bits u64) (wrap u64 z0))):Int)*(2:Int)^min (Int.toNat (8:Int)) (IntKind.bits u64))) |||
                     ofInt (IntKind.bits u64) (wrap u64 z1))):
                   Int)*
                 (2:Int)^min (Int.toNat (8:Int)) (IntKind.bits u64))) |||
              ofInt (IntKind.bits u64) (wrap u64 z2))):
            Int)*
          (2:Int)^min (Int.toNat (8:Int)) (IntKind.bits u64))) |||
       ofInt (IntKind.bits u64) (wrap u64 z3))):
     Int)))
  (aN (1:Nat) b e)) (aN (1:Nat) b e)) ⟨[(.cells [aF,(ki b e),(kg b e a),(ko b e)]),(nn (lw
  (wrap u32
   (wrap u64
    (↑(toNat
      (ofInt (IntKind.bits u64)
        (wrap u64
         (wrap u64
           (↑(toNat
             (ofInt (IntKind.bits u64)
               (wrap u64
                (wrap u64
                  (↑(toNat
                    (ofInt (IntKind.bits u64)
                      (wrap u64
                       (wrap u64 (↑(toNat (ofInt (IntKind.bits u64) (wrap u64 ((0:Int)*(2:Int)^min (Int.toNat (8:Int)) (IntKind.bits u64))) ||| ofInt (IntKind.bits u64) (wrap u64 z0))):Int)*(2:Int)^min (Int.toNat (8:Int)) (IntKind.bits u64))) |||
                     ofInt (IntKind.bits u64) (wrap u64 z1))):
                   Int)*
                 (2:Int)^min (Int.toNat (8:Int)) (IntKind.bits u64))) |||
              ofInt (IntKind.bits u64) (wrap u64 z2))):
            Int)*
          (2:Int)^min (Int.toNat (8:Int)) (IntKind.bits u64))) |||
       ofInt (IntKind.bits u64) (wrap u64 z3))):
     Int)))
  (aN (1:Nat) b e)) (aN (1:Nat) b e)),(.cells [(bh z0),(bh z1),(bh z2),(bh z3)])],[]⟩)))))))):=by kernel_rfl
theorem IF {n:Int}(h:ta n):n=0∨n=1∨n=2∨n=3∨n=4∨n=5∨n=6∨n=7∨n=8∨n=9∨n=10∨n=11∨n=12∨n=13∨n=14∨n=15∨n=16∨n=17∨n=18∨n=19∨n=20∨n=21∨n=22∨n=23∨n=24∨n=25∨n=26∨n=27∨n=28∨n=29∨n=30∨n=31∨n=32:=by
 obtain ⟨h0,h1⟩:=h;omega
theorem OA {n:Int}(h:ta n):VCx prog ae 0 cP [.val (.int .i64 n)] ⟨[],[]⟩ λx T'=>x=.val (.int .u32 (IE n))∧T'=⟨[],[]⟩:=by
 rcases IF h with rfl | rfl | rfl | rfl | rfl | rfl | rfl | rfl | rfl | rfl | rfl | rfl | rfl | rfl | rfl | rfl | rfl | rfl | rfl | rfl | rfl | rfl | rfl | rfl | rfl | rfl | rfl | rfl | rfl | rfl | rfl | rfl | rfl
 ·exact aj ac aa ai ag (Og _) ⟨rfl,rfl⟩
 ·exact aj ac aa ai ag (Oh _) ⟨rfl,rfl⟩
 ·exact aj ac aa ai ag (Oi _) ⟨rfl,rfl⟩
 ·exact aj ac aa ai ag (Oj _) ⟨rfl,rfl⟩
 ·exact aj ac aa ai ag (Ol _) ⟨rfl,rfl⟩
 ·exact aj ac aa ai ag (Om _) ⟨rfl,rfl⟩
 ·exact aj ac aa ai ag (Oo _) ⟨rfl,rfl⟩
 ·exact aj ac aa ai ag (Oq _) ⟨rfl,rfl⟩
 ·exact aj ac aa ai ag (Ot _) ⟨rfl,rfl⟩
 ·exact aj ac aa ai ag (Ou _) ⟨rfl,rfl⟩
 ·exact aj ac aa ai ag (Lf _) ⟨rfl,rfl⟩
 ·exact aj ac aa ai ag (Lg _) ⟨rfl,rfl⟩
 ·exact aj ac aa ai ag (Lh _) ⟨rfl,rfl⟩
 ·exact aj ac aa ai ag (Li _) ⟨rfl,rfl⟩
 ·exact aj ac aa ai ag (Lj _) ⟨rfl,rfl⟩
 ·exact aj ac aa ai ag (Lk _) ⟨rfl,rfl⟩
 ·exact aj ac aa ai ag (Ll _) ⟨rfl,rfl⟩
 ·exact aj ac aa ai ag (Lm _) ⟨rfl,rfl⟩
 ·exact aj ac aa ai ag (Ln _) ⟨rfl,rfl⟩
 ·exact aj ac aa ai ag (Lo _) ⟨rfl,rfl⟩
 ·exact aj ac aa ai ag (Lp _) ⟨rfl,rfl⟩
 ·exact aj ac aa ai ag (Lq _) ⟨rfl,rfl⟩
 ·exact aj ac aa ai ag (Lr _) ⟨rfl,rfl⟩
 ·exact aj ac aa ai ag (Ls _) ⟨rfl,rfl⟩
 ·exact aj ac aa ai ag (Lt _) ⟨rfl,rfl⟩
 ·exact aj ac aa ai ag (Lu _) ⟨rfl,rfl⟩
 ·exact aj ac aa ai ag (Lv _) ⟨rfl,rfl⟩
 ·exact aj ac aa ai ag (Lw _) ⟨rfl,rfl⟩
 ·exact aj ac aa ai ag (Lx _) ⟨rfl,rfl⟩
 ·exact aj ac aa ai ag (Ly _) ⟨rfl,rfl⟩
 ·exact aj ac aa ai ag (LA _) ⟨rfl,rfl⟩
 ·exact aj ac aa ai ag (LB _) ⟨rfl,rfl⟩
 ·exact aj ac aa ai ag (LC _) ⟨rfl,rfl⟩
theorem OB:∀ro ys T K,QS ro ys T K→VCx prog ae ro cP ys T K:=by
 intro ro ys T K hw
 unfold QS at hw
 split at hw
 ·exact VCx.liftPure aV (OA hw.1) rfl (λ_ _=>rfl) hw.2
 ·exact hw.elim
theorem OC (a:Int){n:Int}(h:ta n):VCx prog ae 0 rl [.agg [.val (.int .u32 a),.val (.int .i64 n)]] ⟨[],[]⟩ λx T'=>x=.agg [.val (.int .u32 (lw a n)),.val (.int .i64 n)]∧T'=⟨[],[]⟩:=by
 refine VCx.keepQ 0 0 (le_refl _) (le_refl _) (aj ac aa (aZ λp hp=>by obtain rfl:=mem_singleton.1 hp;exact OB) ag (QT a n _) ?_)
 have e:(if (32:Int)<if (0:Int)>n then (0:Int) else n then (32:Int) else if (0:Int)>n then (0:Int) else n)=n:=by
  obtain ⟨h0,h1⟩:=h
  rw [if_neg (show ¬(0:Int)>n by omega),if_neg (by omega)]
 rw [e]
 exact ⟨h,rfl,rfl⟩
theorem OD:∀ro ys T K,Af ro ys T K→VCx prog ae ro rl ys T K:=by
 intro ro ys T K hw
 unfold Af at hw
 split at hw
 ·exact VCx.liftPure aV (OC _ hw.1) rfl (λ_ _=>rfl) hw.2
 ·exact hw.elim
theorem QU (l:Bs):∀ro ys T K,Ag l ro ys T K→VCx prog ae ro jK ys T K:=by
 intro ro ys T K hw
 unfold Ag at hw
 split at hw
 ·split at hw
  ·rename_i ho
   obtain ⟨⟨h1,h2⟩,hk⟩:=hw
   subst h2
   refine s9 _ _ _ _ ?_
   unfold Cp
   simp only [ho]
   exact ⟨h1,hk⟩
  ·exact hw.elim
 ·exact hw.elim
def gK (n:Int):Int:=tdiv (n+7) 8
def Cx (l:Bs):Int:=kF (l++List.replicate (4-l.length) (bT 0))
def dp (b:Bs)(e:Int):Bool:=decide (au 1 b e=0)&&decide (aN 1 b e≤32)
def pp (b:Bs)(e:Int):Bs:=b9 (gK (aN 1 b e)) (ar 1 b e) (au 1 b e)
def r5 (b:Bs)(e:Int):Int:=au (gK (aN 1 b e)) (ar 1 b e) (au 1 b e)
def bQ (b:Bs)(e:Int):Bool:=dp b e&&decide (r5 b e=0)
def dV (b:Bs)(e:Int):Bs:=bif dp b e then ar (gK (aN 1 b e)) (ar 1 b e) (au 1 b e) else ar 1 b e
def iJ (b:Bs)(e:Int):Int:=bif dp b e then r5 b e else au 1 b e
def gH (b:Bs)(e a:Int):Int:=bif dp b e then bE (gK (aN 1 b e)) (ar 1 b e) (au 1 b e) (bE 1 b e a) else bE 1 b e a
def cV (b:Bs)(e:Int):Int:=bif bQ b e then lw (Cx (pp b e)) (aN 1 b e) else 0
def cW (b:Bs)(e:Int):Int:=bif bQ b e then aN 1 b e else 0
def gj (b:Bs)(e:Int):TV:=.tup [.agg [.val (.int .u32 (cV b e)),.val (.int .i64 (cW b e))],.val (.bool (bQ b e))]
theorem gp {b:Bs}(hb:IsB b)(a e:Int)(l:List VO)(t:List (Nat × Nat × Bool)):VT.keep ⟨aG b a e::l,t⟩ 1 0=⟨[aG b a e],[]⟩:=by
 simp only [VT.keep,List.take_succ_cons,List.take_zero,map_cons,map_nil,bK hb]
theorem Cy {b:Bs}{e:Int}(h:IsB b):IsB (dV b e):=by
 unfold dV;cases dp b e
 ·exact aC h
 ·exact aC (aC h)
theorem Cz {b:Bs}(h:IsB b)(e:Int):0≤aN 1 b e∧aN 1 b e<256:=by
 rw [Cn];exact Co (n:=1) h e
theorem IG {n:Int}(h0:0≤n)(h1:n<256):wrap .i64 (tdiv (wrap .i64 (wrap .i64 (n+(8:Int))-(1:Int))) (8:Int))=gK n:=by
 unfold gK
 rw [dE (z:=n+8) (by omega) (by omega),dE (z:=n+8-1) (by omega) (by omega),show n+8-1=n+7 by omega]
 have:=Int.tdiv_eq_ediv_of_nonneg (a:=n+7) (b:=8) (by omega)
 exact dE (by omega) (by omega)
theorem tb (z0 z1 z2 z3:Int):Cx [bT z0,bT z1,bT z2,bT z3]=((z0*256+z1)*256+z2)*256+z3∧Cx [bT z0,bT z1,bT z2]=((z0*256+z1)*256+z2)*256∧Cx [bT z0,bT z1]=((z0*256+z1)*256)*256∧Cx [bT z0]=(z0*256*256)*256∧Cx []=0:=by
 refine ⟨?_,?_,?_,?_,?_⟩<;>simp [Cx,kF,gU,bT,List.replicate]
theorem CA (l:Bs):bu prog ae (aT [(iD,lu .i64 1),(jc,lv),(jK,Ag l),(rl,Af)]):=aZ λp hp=>by
 rcases mem_cons.1 hp with rfl | hp;exact qo
 rcases mem_cons.1 hp with rfl | hp;exact qp
 rcases mem_cons.1 hp with rfl | hp;exact QU l
 obtain rfl:=mem_singleton.1 hp;exact OD
def gL (b:Bs)(a e:Int):VT:=⟨[aG (dV b e) (gH b e a) (iJ b e)],[]⟩
theorem QV {b:Bs}(hb:IsB b)(a e:Int)(hl:dp b e=true→pp b e= []):VCx prog ae 0 lc [.ptr 0 0] ⟨[aG b a e],[]⟩ λx T'=>x=gj b e∧T'=gL b a e:=by
 obtain ⟨hn0,hn1⟩:=Cz hb e
 refine VCx.keepQ 1 0 (le_refl _) (le_refl _) (aj ac aa (CA []) ag (Ov b a e _) ?_)
 refine ⟨⟨rfl,hb⟩,⟨rfl,aC hb⟩,?_⟩
 by_cases h1:au 1 b e=0
 ·refine bg (by rw [dJ];exact congrArg Bool.not (decide_eq_true h1)) ?_
  by_cases h2:aN 1 b e≤32
  ·have hG:dp b e=true:=by unfold dp;rw [decide_eq_true h1,decide_eq_true h2];rfl
   have hL:=hl hG
   refine bg (decide_eq_false (by omega)) ?_
   try delta kg ki ko
   rw [IG hn0 hn1]
   refine ⟨⟨⟨rfl,aC hb⟩,hL⟩,⟨rfl,aC (aC hb)⟩,?_⟩
   have eT:∀l:List VO,VT.keep ⟨aG (ar (gK (aN 1 b e)) (ar 1 b e) (au 1 b e)) (bE (gK (aN 1 b e)) (ar 1 b e) (au 1 b e) (bE 1 b e a)) (au (gK (aN 1 b e)) (ar 1 b e) (au 1 b e))::l,[]⟩ 1 0=gL b a e:=λl=>by
    rw [gp (aC (aC hb))];simp only [gL,dV,gH,iJ,r5,hG,cond_true]
   by_cases h3:r5 b e=0
   ·have hO:bQ b e=true:=by unfold bQ;rw [hG,decide_eq_true h3];rfl
    refine bg (by rw [dJ];exact congrArg Bool.not (decide_eq_true h3)) ⟨⟨hn0,h2⟩,?_,eT _⟩
    unfold gj cV cW
    rw [hO]
    simp only [cond_true]
    refine congrArg (λy=>TV.tup [.agg [.val (.int .u32 (lw y (aN 1 b e))),.val (.int .i64 (aN 1 b e))],.val (.bool true)]) ?_
    rw [hL]
    have ha:=tb 0 0 0 0
    rw [cu (n:=0) (z:=0) (by omega) (by omega) (by omega) (by omega)]
    rw [cu (n:=(0*256+0)) (z:=0) (by omega) (by omega) (by omega) (by omega)]
    rw [cu (n:=((0*256+0)*256+0)) (z:=0) (by omega) (by omega) (by omega) (by omega)]
    rw [cu (n:=(((0*256+0)*256+0)*256+0)) (z:=0) (by omega) (by omega) (by omega) (by omega)]
    have hw64:wrap .u64 ((((0*256+0)*256+0)*256+0)*256+0)=((((0*256+0)*256+0)*256+0)*256+0):=by simp only [wrap,IntKind.bits,signed];simp<;>omega
    have hw32:wrap .u32 ((((0*256+0)*256+0)*256+0)*256+0)=((((0*256+0)*256+0)*256+0)*256+0):=by simp only [wrap,IntKind.bits,signed];simp<;>omega
    rw [ha.2.2.2.2]
    first | rw [hw64,hw32] | rw [hw32] | skip
    omega
   ·have hO:bQ b e=false:=by unfold bQ;rw [hG,decide_eq_false h3];rfl
    refine bd (by rw [dJ];exact congrArg Bool.not (decide_eq_false h3)) ⟨?_,eT _⟩
    unfold gj cV cW
    rw [hO];rfl
  ·have hG:dp b e=false:=by unfold dp;rw [decide_eq_false h2,Bool.and_false]
   have hO:bQ b e=false:=by unfold bQ;rw [hG];rfl
   refine bd (decide_eq_true (by omega)) ⟨?_,?_⟩
   ·unfold gj cV cW
    rw [hO];rfl
   ·refine (gp (aC hb) _ _ _ _).trans ?_
    simp only [gL,dV,gH,iJ,hG,cond_false];rfl
 ·have hG:dp b e=false:=by unfold dp;rw [decide_eq_false h1,Bool.false_and]
  have hO:bQ b e=false:=by unfold bQ;rw [hG];rfl
  refine bd (by rw [dJ];exact congrArg Bool.not (decide_eq_false h1)) ⟨?_,?_⟩
  ·unfold gj cV cW
   rw [hO];rfl
  ·refine (gp (aC hb) _ _ _ _).trans ?_
   simp only [gL,dV,gH,iJ,hG,cond_false];rfl
theorem V2 {b:Bs}(hb:IsB b)(a e:Int){z0:Int}(hz0:0≤z0∧z0<256)(hl:dp b e=true→pp b e= [bT z0]):VCx prog ae 0 lc [.ptr 0 0] ⟨[aG b a e],[]⟩ λx T'=>x=gj b e∧T'=gL b a e:=by
 obtain ⟨hn0,hn1⟩:=Cz hb e
 refine VCx.keepQ 1 0 (le_refl _) (le_refl _) (aj ac aa (CA [bT z0]) ag (Ow b a e z0 _) ?_)
 refine ⟨⟨rfl,hb⟩,⟨rfl,aC hb⟩,?_⟩
 by_cases h1:au 1 b e=0
 ·refine bg (by rw [dJ];exact congrArg Bool.not (decide_eq_true h1)) ?_
  by_cases h2:aN 1 b e≤32
  ·have hG:dp b e=true:=by unfold dp;rw [decide_eq_true h1,decide_eq_true h2];rfl
   have hL:=hl hG
   refine bg (decide_eq_false (by omega)) ?_
   try delta kg ki ko
   rw [IG hn0 hn1]
   refine ⟨⟨⟨rfl,aC hb⟩,hL⟩,⟨rfl,aC (aC hb)⟩,?_⟩
   have eT:∀l:List VO,VT.keep ⟨aG (ar (gK (aN 1 b e)) (ar 1 b e) (au 1 b e)) (bE (gK (aN 1 b e)) (ar 1 b e) (au 1 b e) (bE 1 b e a)) (au (gK (aN 1 b e)) (ar 1 b e) (au 1 b e))::l,[]⟩ 1 0=gL b a e:=λl=>by
    rw [gp (aC (aC hb))];simp only [gL,dV,gH,iJ,r5,hG,cond_true]
   by_cases h3:r5 b e=0
   ·have hO:bQ b e=true:=by unfold bQ;rw [hG,decide_eq_true h3];rfl
    refine bg (by rw [dJ];exact congrArg Bool.not (decide_eq_true h3)) ⟨⟨hn0,h2⟩,?_,eT _⟩
    unfold gj cV cW
    rw [hO]
    simp only [cond_true]
    refine congrArg (λy=>TV.tup [.agg [.val (.int .u32 (lw y (aN 1 b e))),.val (.int .i64 (aN 1 b e))],.val (.bool true)]) ?_
    rw [hL]
    have ha:=tb z0 0 0 0
    rw [cu (n:=0) (z:=z0) (by omega) (by omega) (by omega) (by omega)]
    rw [cu (n:=(0*256+z0)) (z:=0) (by omega) (by omega) (by omega) (by omega)]
    rw [cu (n:=((0*256+z0)*256+0)) (z:=0) (by omega) (by omega) (by omega) (by omega)]
    rw [cu (n:=(((0*256+z0)*256+0)*256+0)) (z:=0) (by omega) (by omega) (by omega) (by omega)]
    have hw64:wrap .u64 ((((0*256+z0)*256+0)*256+0)*256+0)=((((0*256+z0)*256+0)*256+0)*256+0):=by simp only [wrap,IntKind.bits,signed];simp<;>omega
    have hw32:wrap .u32 ((((0*256+z0)*256+0)*256+0)*256+0)=((((0*256+z0)*256+0)*256+0)*256+0):=by simp only [wrap,IntKind.bits,signed];simp<;>omega
    rw [ha.2.2.2.1]
    first | rw [hw64,hw32] | rw [hw32] | skip
    omega
   ·have hO:bQ b e=false:=by unfold bQ;rw [hG,decide_eq_false h3];rfl
    refine bd (by rw [dJ];exact congrArg Bool.not (decide_eq_false h3)) ⟨?_,eT _⟩
    unfold gj cV cW
    rw [hO];rfl
  ·have hG:dp b e=false:=by unfold dp;rw [decide_eq_false h2,Bool.and_false]
   have hO:bQ b e=false:=by unfold bQ;rw [hG];rfl
   refine bd (decide_eq_true (by omega)) ⟨?_,?_⟩
   ·unfold gj cV cW
    rw [hO];rfl
   ·refine (gp (aC hb) _ _ _ _).trans ?_
    simp only [gL,dV,gH,iJ,hG,cond_false];rfl
 ·have hG:dp b e=false:=by unfold dp;rw [decide_eq_false h1,Bool.false_and]
  have hO:bQ b e=false:=by unfold bQ;rw [hG];rfl
  refine bd (by rw [dJ];exact congrArg Bool.not (decide_eq_false h1)) ⟨?_,?_⟩
  ·unfold gj cV cW
   rw [hO];rfl
  ·refine (gp (aC hb) _ _ _ _).trans ?_
   simp only [gL,dV,gH,iJ,hG,cond_false];rfl
theorem V3 {b:Bs}(hb:IsB b)(a e:Int){z0 z1:Int}(hz0:0≤z0∧z0<256)(hz1:0≤z1∧z1<256)(hl:dp b e=true→pp b e= [bT z0,bT z1]):VCx prog ae 0 lc [.ptr 0 0] ⟨[aG b a e],[]⟩ λx T'=>x=gj b e∧T'=gL b a e:=by
 obtain ⟨hn0,hn1⟩:=Cz hb e
 refine VCx.keepQ 1 0 (le_refl _) (le_refl _) (aj ac aa (CA [bT z0,bT z1]) ag (Ox b a e z0 z1 _) ?_)
 refine ⟨⟨rfl,hb⟩,⟨rfl,aC hb⟩,?_⟩
 by_cases h1:au 1 b e=0
 ·refine bg (by rw [dJ];exact congrArg Bool.not (decide_eq_true h1)) ?_
  by_cases h2:aN 1 b e≤32
  ·have hG:dp b e=true:=by unfold dp;rw [decide_eq_true h1,decide_eq_true h2];rfl
   have hL:=hl hG
   refine bg (decide_eq_false (by omega)) ?_
   try delta kg ki ko
   rw [IG hn0 hn1]
   refine ⟨⟨⟨rfl,aC hb⟩,hL⟩,⟨rfl,aC (aC hb)⟩,?_⟩
   have eT:∀l:List VO,VT.keep ⟨aG (ar (gK (aN 1 b e)) (ar 1 b e) (au 1 b e)) (bE (gK (aN 1 b e)) (ar 1 b e) (au 1 b e) (bE 1 b e a)) (au (gK (aN 1 b e)) (ar 1 b e) (au 1 b e))::l,[]⟩ 1 0=gL b a e:=λl=>by
    rw [gp (aC (aC hb))];simp only [gL,dV,gH,iJ,r5,hG,cond_true]
   by_cases h3:r5 b e=0
   ·have hO:bQ b e=true:=by unfold bQ;rw [hG,decide_eq_true h3];rfl
    refine bg (by rw [dJ];exact congrArg Bool.not (decide_eq_true h3)) ⟨⟨hn0,h2⟩,?_,eT _⟩
    unfold gj cV cW
    rw [hO]
    simp only [cond_true]
    refine congrArg (λy=>TV.tup [.agg [.val (.int .u32 (lw y (aN 1 b e))),.val (.int .i64 (aN 1 b e))],.val (.bool true)]) ?_
    rw [hL]
    have ha:=tb z0 z1 0 0
    rw [cu (n:=0) (z:=z0) (by omega) (by omega) (by omega) (by omega)]
    rw [cu (n:=(0*256+z0)) (z:=z1) (by omega) (by omega) (by omega) (by omega)]
    rw [cu (n:=((0*256+z0)*256+z1)) (z:=0) (by omega) (by omega) (by omega) (by omega)]
    rw [cu (n:=(((0*256+z0)*256+z1)*256+0)) (z:=0) (by omega) (by omega) (by omega) (by omega)]
    have hw64:wrap .u64 ((((0*256+z0)*256+z1)*256+0)*256+0)=((((0*256+z0)*256+z1)*256+0)*256+0):=by simp only [wrap,IntKind.bits,signed];simp<;>omega
    have hw32:wrap .u32 ((((0*256+z0)*256+z1)*256+0)*256+0)=((((0*256+z0)*256+z1)*256+0)*256+0):=by simp only [wrap,IntKind.bits,signed];simp<;>omega
    rw [ha.2.2.1]
    first | rw [hw64,hw32] | rw [hw32] | skip
    omega
   ·have hO:bQ b e=false:=by unfold bQ;rw [hG,decide_eq_false h3];rfl
    refine bd (by rw [dJ];exact congrArg Bool.not (decide_eq_false h3)) ⟨?_,eT _⟩
    unfold gj cV cW
    rw [hO];rfl
  ·have hG:dp b e=false:=by unfold dp;rw [decide_eq_false h2,Bool.and_false]
   have hO:bQ b e=false:=by unfold bQ;rw [hG];rfl
   refine bd (decide_eq_true (by omega)) ⟨?_,?_⟩
   ·unfold gj cV cW
    rw [hO];rfl
   ·refine (gp (aC hb) _ _ _ _).trans ?_
    simp only [gL,dV,gH,iJ,hG,cond_false];rfl
 ·have hG:dp b e=false:=by unfold dp;rw [decide_eq_false h1,Bool.false_and]
  have hO:bQ b e=false:=by unfold bQ;rw [hG];rfl
  refine bd (by rw [dJ];exact congrArg Bool.not (decide_eq_false h1)) ⟨?_,?_⟩
  ·unfold gj cV cW
   rw [hO];rfl
  ·refine (gp (aC hb) _ _ _ _).trans ?_
   simp only [gL,dV,gH,iJ,hG,cond_false];rfl
theorem V4 {b:Bs}(hb:IsB b)(a e:Int){z0 z1 z2:Int}(hz0:0≤z0∧z0<256)(hz1:0≤z1∧z1<256)(hz2:0≤z2∧z2<256)(hl:dp b e=true→pp b e= [bT z0,bT z1,bT z2]):VCx prog ae 0 lc [.ptr 0 0] ⟨[aG b a e],[]⟩ λx T'=>x=gj b e∧T'=gL b a e:=by
 obtain ⟨hn0,hn1⟩:=Cz hb e
 refine VCx.keepQ 1 0 (le_refl _) (le_refl _) (aj ac aa (CA [bT z0,bT z1,bT z2]) ag (Oy b a e z0 z1 z2 _) ?_)
 refine ⟨⟨rfl,hb⟩,⟨rfl,aC hb⟩,?_⟩
 by_cases h1:au 1 b e=0
 ·refine bg (by rw [dJ];exact congrArg Bool.not (decide_eq_true h1)) ?_
  by_cases h2:aN 1 b e≤32
  ·have hG:dp b e=true:=by unfold dp;rw [decide_eq_true h1,decide_eq_true h2];rfl
   have hL:=hl hG
   refine bg (decide_eq_false (by omega)) ?_
   try delta kg ki ko
   rw [IG hn0 hn1]
   refine ⟨⟨⟨rfl,aC hb⟩,hL⟩,⟨rfl,aC (aC hb)⟩,?_⟩
   have eT:∀l:List VO,VT.keep ⟨aG (ar (gK (aN 1 b e)) (ar 1 b e) (au 1 b e)) (bE (gK (aN 1 b e)) (ar 1 b e) (au 1 b e) (bE 1 b e a)) (au (gK (aN 1 b e)) (ar 1 b e) (au 1 b e))::l,[]⟩ 1 0=gL b a e:=λl=>by
    rw [gp (aC (aC hb))];simp only [gL,dV,gH,iJ,r5,hG,cond_true]
   by_cases h3:r5 b e=0
   ·have hO:bQ b e=true:=by unfold bQ;rw [hG,decide_eq_true h3];rfl
    refine bg (by rw [dJ];exact congrArg Bool.not (decide_eq_true h3)) ⟨⟨hn0,h2⟩,?_,eT _⟩
    unfold gj cV cW
    rw [hO]
    simp only [cond_true]
    refine congrArg (λy=>TV.tup [.agg [.val (.int .u32 (lw y (aN 1 b e))),.val (.int .i64 (aN 1 b e))],.val (.bool true)]) ?_
    rw [hL]
    have ha:=tb z0 z1 z2 0
    rw [cu (n:=0) (z:=z0) (by omega) (by omega) (by omega) (by omega)]
    rw [cu (n:=(0*256+z0)) (z:=z1) (by omega) (by omega) (by omega) (by omega)]
    rw [cu (n:=((0*256+z0)*256+z1)) (z:=z2) (by omega) (by omega) (by omega) (by omega)]
    rw [cu (n:=(((0*256+z0)*256+z1)*256+z2)) (z:=0) (by omega) (by omega) (by omega) (by omega)]
    have hw64:wrap .u64 ((((0*256+z0)*256+z1)*256+z2)*256+0)=((((0*256+z0)*256+z1)*256+z2)*256+0):=by simp only [wrap,IntKind.bits,signed];simp<;>omega
    have hw32:wrap .u32 ((((0*256+z0)*256+z1)*256+z2)*256+0)=((((0*256+z0)*256+z1)*256+z2)*256+0):=by simp only [wrap,IntKind.bits,signed];simp<;>omega
    rw [ha.2.1]
    first | rw [hw64,hw32] | rw [hw32] | skip
    omega
   ·have hO:bQ b e=false:=by unfold bQ;rw [hG,decide_eq_false h3];rfl
    refine bd (by rw [dJ];exact congrArg Bool.not (decide_eq_false h3)) ⟨?_,eT _⟩
    unfold gj cV cW
    rw [hO];rfl
  ·have hG:dp b e=false:=by unfold dp;rw [decide_eq_false h2,Bool.and_false]
   have hO:bQ b e=false:=by unfold bQ;rw [hG];rfl
   refine bd (decide_eq_true (by omega)) ⟨?_,?_⟩
   ·unfold gj cV cW
    rw [hO];rfl
   ·refine (gp (aC hb) _ _ _ _).trans ?_
    simp only [gL,dV,gH,iJ,hG,cond_false];rfl
 ·have hG:dp b e=false:=by unfold dp;rw [decide_eq_false h1,Bool.false_and]
  have hO:bQ b e=false:=by unfold bQ;rw [hG];rfl
  refine bd (by rw [dJ];exact congrArg Bool.not (decide_eq_false h1)) ⟨?_,?_⟩
  ·unfold gj cV cW
   rw [hO];rfl
  ·refine (gp (aC hb) _ _ _ _).trans ?_
   simp only [gL,dV,gH,iJ,hG,cond_false];rfl
theorem V5 {b:Bs}(hb:IsB b)(a e:Int){z0 z1 z2 z3:Int}(hz0:0≤z0∧z0<256)(hz1:0≤z1∧z1<256)(hz2:0≤z2∧z2<256)(hz3:0≤z3∧z3<256)(hl:dp b e=true→pp b e= [bT z0,bT z1,bT z2,bT z3]):VCx prog ae 0 lc [.ptr 0 0] ⟨[aG b a e],[]⟩ λx T'=>x=gj b e∧T'=gL b a e:=by
 obtain ⟨hn0,hn1⟩:=Cz hb e
 refine VCx.keepQ 1 0 (le_refl _) (le_refl _) (aj ac aa (CA [bT z0,bT z1,bT z2,bT z3]) ag (Oz b a e z0 z1 z2 z3 _) ?_)
 refine ⟨⟨rfl,hb⟩,⟨rfl,aC hb⟩,?_⟩
 by_cases h1:au 1 b e=0
 ·refine bg (by rw [dJ];exact congrArg Bool.not (decide_eq_true h1)) ?_
  by_cases h2:aN 1 b e≤32
  ·have hG:dp b e=true:=by unfold dp;rw [decide_eq_true h1,decide_eq_true h2];rfl
   have hL:=hl hG
   refine bg (decide_eq_false (by omega)) ?_
   try delta kg ki ko
   rw [IG hn0 hn1]
   refine ⟨⟨⟨rfl,aC hb⟩,hL⟩,⟨rfl,aC (aC hb)⟩,?_⟩
   have eT:∀l:List VO,VT.keep ⟨aG (ar (gK (aN 1 b e)) (ar 1 b e) (au 1 b e)) (bE (gK (aN 1 b e)) (ar 1 b e) (au 1 b e) (bE 1 b e a)) (au (gK (aN 1 b e)) (ar 1 b e) (au 1 b e))::l,[]⟩ 1 0=gL b a e:=λl=>by
    rw [gp (aC (aC hb))];simp only [gL,dV,gH,iJ,r5,hG,cond_true]
   by_cases h3:r5 b e=0
   ·have hO:bQ b e=true:=by unfold bQ;rw [hG,decide_eq_true h3];rfl
    refine bg (by rw [dJ];exact congrArg Bool.not (decide_eq_true h3)) ⟨⟨hn0,h2⟩,?_,eT _⟩
    unfold gj cV cW
    rw [hO]
    simp only [cond_true]
    refine congrArg (λy=>TV.tup [.agg [.val (.int .u32 (lw y (aN 1 b e))),.val (.int .i64 (aN 1 b e))],.val (.bool true)]) ?_
    rw [hL]
    have ha:=tb z0 z1 z2 z3
    rw [cu (n:=0) (z:=z0) (by omega) (by omega) (by omega) (by omega)]
    rw [cu (n:=(0*256+z0)) (z:=z1) (by omega) (by omega) (by omega) (by omega)]
    rw [cu (n:=((0*256+z0)*256+z1)) (z:=z2) (by omega) (by omega) (by omega) (by omega)]
    rw [cu (n:=(((0*256+z0)*256+z1)*256+z2)) (z:=z3) (by omega) (by omega) (by omega) (by omega)]
    have hw64:wrap .u64 ((((0*256+z0)*256+z1)*256+z2)*256+z3)=((((0*256+z0)*256+z1)*256+z2)*256+z3):=by simp only [wrap,IntKind.bits,signed];simp<;>omega
    have hw32:wrap .u32 ((((0*256+z0)*256+z1)*256+z2)*256+z3)=((((0*256+z0)*256+z1)*256+z2)*256+z3):=by simp only [wrap,IntKind.bits,signed];simp<;>omega
    rw [ha.1]
    first | rw [hw64,hw32] | rw [hw32] | skip
    omega
   ·have hO:bQ b e=false:=by unfold bQ;rw [hG,decide_eq_false h3];rfl
    refine bd (by rw [dJ];exact congrArg Bool.not (decide_eq_false h3)) ⟨?_,eT _⟩
    unfold gj cV cW
    rw [hO];rfl
  ·have hG:dp b e=false:=by unfold dp;rw [decide_eq_false h2,Bool.and_false]
   have hO:bQ b e=false:=by unfold bQ;rw [hG];rfl
   refine bd (decide_eq_true (by omega)) ⟨?_,?_⟩
   ·unfold gj cV cW
    rw [hO];rfl
   ·refine (gp (aC hb) _ _ _ _).trans ?_
    simp only [gL,dV,gH,iJ,hG,cond_false];rfl
 ·have hG:dp b e=false:=by unfold dp;rw [decide_eq_false h1,Bool.false_and]
  have hO:bQ b e=false:=by unfold bQ;rw [hG];rfl
  refine bd (by rw [dJ];exact congrArg Bool.not (decide_eq_false h1)) ⟨?_,?_⟩
  ·unfold gj cV cW
   rw [hO];rfl
  ·refine (gp (aC hb) _ _ _ _).trans ?_
   simp only [gL,dV,gH,iJ,hG,cond_false];rfl
theorem II {b:Bs}(hb:IsB b)(e:Int):dp b e=false∨pp b e= []∨(∃z0,(0≤z0∧z0<256)∧pp b e= [bT z0])∨(∃z0 z1,(0≤z0∧z0<256)∧(0≤z1∧z1<256)∧pp b e= [bT z0,bT z1])∨(∃z0 z1 z2,(0≤z0∧z0<256)∧(0≤z1∧z1<256)∧(0≤z2∧z2<256)∧pp b e= [bT z0,bT z1,bT z2])∨
  ∃z0 z1 z2 z3,(0≤z0∧z0<256)∧(0≤z1∧z1<256)∧(0≤z2∧z2<256)∧(0≤z3∧z3<256)∧pp b e= [bT z0,bT z1,bT z2,bT z3]:=by
 obtain ⟨hn0,hn1⟩:=Cz hb e
 by_cases hg:dp b e=true
 ·refine .inr ?_
  have h32:aN 1 b e≤32:=by
   simp only [dp,and_eq_true,decide_eq_true_eq] at hg;exact hg.2
  obtain ⟨⟨l,hl,hz⟩,_⟩:IsB (pp b e):=ig (aC hb)
  have hlen:l.length≤4:=by
   have h1:((pp b e).length:Int)=bif cU (gK (aN 1 b e)) (ar 1 b e) (au 1 b e) then gK (aN 1 b e) else 0:=uB
   have h2:gK (aN 1 b e)≤4:=by
    unfold gK
    have:=Int.tdiv_eq_ediv_of_nonneg (a:=aN 1 b e+7) (b:=8) (by omega)
    omega
   have h3:(pp b e).length=l.length:=by rw [hl];simp [bV]
   cases hc:cU (gK (aN 1 b e)) (ar 1 b e) (au 1 b e)<;>rw [hc] at h1
   ·simp only [cond_false] at h1;omega
   ·simp only [cond_true] at h1;omega
  rw [hl]
  rcases l with _ | ⟨a,_ | ⟨c,_ | ⟨d,_ | ⟨f,_ | ⟨g,l⟩⟩⟩⟩⟩
  ·exact .inl rfl
  ·exact .inr (.inl ⟨a,hz a (by simp),rfl⟩)
  ·exact .inr (.inr (.inl ⟨a,c,hz a (by simp),hz c (by simp),rfl⟩))
  ·exact .inr (.inr (.inr (.inl ⟨a,c,d,hz a (by simp),hz c (by simp),hz d (by simp),rfl⟩)))
  ·exact .inr (.inr (.inr (.inr ⟨a,c,d,f,hz a (by simp),hz c (by simp),hz d (by simp),hz f (by simp),rfl⟩)))
  ·simp only [length_cons] at hlen;omega
 ·exact .inl (Bool.eq_false_iff.2 hg)
theorem OE {b:Bs}(hb:IsB b)(a e:Int):VCx prog ae 0 lc [.ptr 0 0] ⟨[aG b a e],[]⟩ λx T'=>x=gj b e∧T'=gL b a e:=by
 rcases II hb e with h | h | ⟨z0,h0,h⟩ | ⟨z0,z1,h0,h1,h⟩ | ⟨z0,z1,z2,h0,h1,h2,h⟩ | ⟨z0,z1,z2,z3,h0,h1,h2,h3,h⟩
 ·exact QV hb a e λhg=>by rw [h] at hg;cases hg
 ·exact QV hb a e λ_=>h
 ·exact V2 hb a e h0 λ_=>h
 ·exact V3 hb a e h0 h1 λ_=>h
 ·exact V4 hb a e h0 h1 h2 λ_=>h
 ·exact V5 hb a e h0 h1 h2 h3 λ_=>h
def TVle (x y:TV):Prop:=∀g w u,VR g w x u→VR g w y u
def TVleL:List TV→List TV→Prop
 |[],[]=>True
 |x::l,y::m=>TVle x y∧TVleL l m
 |_,_=>False
theorem TVle.refl (x:TV):TVle x x:=λ_ _ _ h=>h
theorem TVle.of_eq {x y:TV}(h:x=y):TVle x y:=h▸TVle.refl x
theorem TVle.nil (size:Nat):TVle (.val (.slice none 0 0)) (.vec size [] .none):=λ_ _ _ h=>by
 obtain rfl:=h.val_inv
 exact .nil trivial
theorem TVle.vec (size:Nat)(es:List (List TV))(tok:Tok):TVle (.vec size es tok) (.vec size es .none):=λ_ _ _ h=>nk h
theorem TVleL.refl:∀l,TVleL l l
 |[]=>trivial
 |x::l=>⟨TVle.refl x,TVleL.refl l⟩
theorem TVleL.at:∀{l m:List TV},TVleL l m→l.length=m.length∧∀(j:Nat) x y,l[j]?=some x→m[j]?=some y→TVle x y
 |[],[],_=>⟨rfl,λj _ _ h=>by simp at h⟩
 |a::l,b::m,h=>by
  obtain ⟨h1,h2⟩:=TVleL.at h.2
  refine ⟨by simp [h1],λj x y hx hy=> ?_⟩
  cases j with
  |zero=>simp at hx hy;subst hx hy;exact h.1
  |succ j=>exact h2 j x y (by simpa using hx) (by simpa using hy)
 |[],_::_,h=>h.elim
 |_::_,[],h=>h.elim
theorem TVleL.vrs {l m:List TV}(h:TVleL l m){g:Gh}{w:World}{us:List Value}(hv:VRs g w l us):VRs g w m us:=by
 obtain ⟨h1,h2⟩:=h.at
 refine ⟨by rw [hv.1,h1],λj y u hy hu=> ?_⟩
 have hj:j<l.length:=by rw [h1];exact (List.getElem?_eq_some_iff.1 hy).1
 exact h2 j _ y (getElem?_eq_getElem hj) hy g w u (hv.2 j _ u (getElem?_eq_getElem hj) hu)
theorem TVle.tup {l m:List TV}(h:TVleL l m):TVle (.tup l) (.tup m):=λg w u hu=>by
 obtain ⟨us,rfl,hv⟩:=hu.tup_inv
 obtain ⟨h1,h2⟩:=h.vrs hv
 exact .tup h1 h2
theorem TVle.agg {l m:List TV}(h:TVleL l m):TVle (.agg l) (.agg m):=λg w u hu=>by
 cases hu with
 |agg hl hv=>
  obtain ⟨h1,h2⟩:=h.vrs ⟨hl,hv⟩
  exact .agg h1 h2
theorem VCx.toLe {P:Program}{G:aP}{f:FuncId}{xs:List TV}{T:VT}{y:TV}{Q:VT→Prop}(h:VCx P G 0 f xs T λx T'=>TVle x y∧Q T'):VCx P G 0 f xs T λx T'=>x=y∧Q T':=by
 intro g w us rw0 hG hx
 refine Calls.mono (h g w us rw0 hG hx) ?_
 rintro e w' ⟨v,x,g',T',he,⟨hq,hQ⟩,e',r',hv,hfx⟩
 exact ⟨v,_,g',T',he,⟨rfl,hQ⟩,e',r',hq _ _ _ hv,hfx⟩
def MU:be:=λro ys T K=>match ys with
 |[.ptr k 0]=>match T.objs[k]? with
  |some (.cells [.val (.bool true),.vec 1 b .none,.val (.int .i64 a),.val (.int .i64 e)])=>(ble ro k=true∧IsB b)∧K (.tup [.agg [.val (.int .u32 (cV b e)),.val (.int .i64 (cW b e))],.val (.bool (bQ b e))]) {T with objs:=T.objs.set k (aG (dV b e) (gH b e a) (iJ b e))}
  |_=>False
 |_=>False
def aK (p:Int × Int):List TV:= [.val (.int .u32 p.1),.val (.int .i64 p.2)]
def Ah:List Nat:= [2,3,4,5]
def tc (L:Bs):List TV:= [.val (.slice none 0 0),.val (.bool false),.ptr 0 0,.vec 2 L (.tail 0 L.length)]
def QW (O:Bs→Int→Int→VO)(L:Bs)(ok:Bool)(K:KX):Prop:=∀(bz Lz:Bs) (az ez cz dz:Int),bif ok then K .normal (aI 25 Ah (tc L)) ⟨[O bz az ez],[(L.length,2,true)]⟩ [] else K .ret (aI 25 Ah (tc Lz)) ⟨[O bz az ez,.cells [.val (.int .u32 cz),.val (.int .i64 dz)]],[(Lz.length,2,true)]⟩ []
def Vn (O:Bs→Int→Int→VO)(b L:Bs)(ok:Bool)(c0:Code):Nat→Option (bW × Code):=bX [(0,gn 25 Ah [(5,2)] (tc []) ⟨[O b 0 0],[(0,2,true)]⟩ (QW O L ok),c0)]
theorem Us (b L:Bs)(ok:Bool)(Q:TV→VT→Prop):ax prog ae (aT [(ke,mA)]) aR 300 (Vn aG b L ok (aE prog ot 0)) 0 ot [.vec 1 b .none] aD Q=
 (IsB (b)∧
 ((aE prog ot (0:Nat)=aE prog ot (0:Nat))∧
 (((@Eq (Option Nat) .none .none)∧
 ((@Eq (Nat) 0 0)∧
 ((@Eq (List Nat) [] [])∧
 (((@Eq (Option TV) (.some aO) (.some aO))∧
 True)∧
 ((@Eq (VT) ⟨[(.cells [aF,(aH b),aB,aB])],[(0,(2,true))]⟩ ⟨[(.cells [aF,(aH b),aB,aB])],[(0,(2,true))]⟩)∧
 ((@Eq (Bool) true true)∧
 (@Eq (List TV) [aO,ak,fb,xm] [aO,ak,fb,xm])))))))∧
 (∀bz:Bs,(∀Lz:Bs,(∀az:Int,(∀ez:Int,(∀cz:Int,(∀dz:Int,(bif ok
 then Q (.tup [(iI L (length L)),aF]) ⟨[(.cells [aF,(aH bz),(ah az),(ah ez)])],[((length L),(2,true))]⟩
 else Q Bb ⟨[(.cells [aF,(aH bz),(ah az),(ah ez)]),(nn cz dz)],[((length Lz),(2,true))]⟩)))))))))):=by kernel_rfl
abbrev CB (b:Bs):VO:=(nn (cV b (0:Int)) (cW b (0:Int)))
theorem QX (b L:Bs)(a:Int)(Q:Exit→List TV→VT→List Nat→Nat→Prop):vx prog ae (aT [(kf,m4),(lc,MU)]) (bB [(999999,.dead,none),(23,.vec 2 (L++ [aK (cV b 0,cW b 0)]) (.tail 0 (L.length+1)),some λT=>{T with tails:= [(L.length+1,2,true)]})]) 300 aU none 0 (cC prog ot 0) (aI 25 Ah (tc L)) ⟨[aG b a 0],[(L.length,2,true)]⟩ [] (dw Ah Q)=
 (((@Eq (Bool) true true)∧
 IsB (b))∧
 (bif decide (bC b (0:Int)>(0:Int))
 then (((@Eq (Bool) true true)∧
 IsB (b))∧
 (bif !bQ b (0:Int)
 then Q .ret (GR L (length L)) ⟨[(.cells [aF,(aH (dV b (0:Int))),(ah (gH b (0:Int) a)),(ah (iJ b (0:Int)))]),(CB b)],[((length L),(2,true))]⟩ [] 25
 else (bp prog (λ_=>.none) 0 ⟨[(.cells [aF,(aH (dV b (0:Int))),(ah (gH b (0:Int) a)),(ah (iJ b (0:Int)))]),(CB b)],[((length L),(2,true))]⟩ (.call ⟨(.builtin .append),#[(.tmp 20),(.tmp 22)],#[70,70]⟩) [(20,(iI L (length L))),(22,(.vec 2 [[(.val (.int .u32 (cV b (0:Int)))),(.val (.int .i64 (cW b (0:Int))))]] .full))] (iI (L++ [aK (cV b (0:Int),cW b (0:Int))]) (length L+(1:Nat))) ⟨[(.cells [aF,(aH (dV b (0:Int))),(ah (gH b (0:Int) a)),(ah (iJ b (0:Int)))]),(CB b)],[((length L+(1:Nat)),(2,true))]⟩∧
 Q .normal (GR (L++ [aK (cV b (0:Int),cW b (0:Int))]) (length L+(1:Nat))) ⟨[(.cells [aF,(aH (dV b (0:Int))),(ah (gH b (0:Int) a)),(ah (iJ b (0:Int)))]),(CB b)],[((length L+(1:Nat)),(2,true))]⟩ [] 25)))
 else Q (.exit 0) (GR L (length L)) ⟨[(.cells [aF,(aH b),(ah a),aB])],[((length L),(2,true))]⟩ [] 25)):=by kernel_rfl
theorem QY:∀ro ys T K,MU ro ys T K→VCx prog ae ro lc ys T K:=by
 intro ro ys T K hw
 unfold MU at hw
 split at hw
 ·rename_i k
  split at hw
  ·rename_i b a e ho
   obtain ⟨⟨hro,hb⟩,hk⟩:=hw
   refine VCx.at1 (Q:=λx o' l'=>x=gj b e∧o'=aG (dV b e) (gH b e a) (iJ b e)∧l'= []) aV (le_of_ble_eq_true hro) ho rfl (bK hb a e _ _) (ys1:= [.ptr 0 0]) (by simp [aw,TV.ren,aL]) ((OE hb a e).mono λx T' ⟨h1,h2⟩=>⟨_,_,h2,h1,rfl,rfl⟩) ?_
   rintro x o' l' ⟨rfl,rfl,rfl⟩
   rw [bK (Cy hb)]
   simpa [TV.ren,gj,aw] using hk
  ·exact hw.elim
 ·exact hw.elim
def kp:Nat→Bs→List (Int × Int)→Option (List (Int × Int))
 | 0,_,_=>none
 |k+1,b,acc=>bif decide (bC b 0>0) then (bif bQ b 0 then kp k (dV b 0) (acc++ [(cV b 0,cW b 0)]) else none) else some acc
def vn (b:Bs):Option (List (Int × Int)):=kp (b.length+1) b []
def aX (b:Bs):Bs:=((vn b).getD []).map aK
def gk (b:Bs):Bool:=(vn b).isSome
def Ai (b:Bs):TV:=.tup [.vec 2 (aX b) .none,.val (.bool (gk b))]
theorem V9 (b:Bs):bC b 0=b.length:=rfl
theorem QZ {b:Bs}(h:bQ b 0=true):iJ b 0=0:=by
 simp only [bQ,and_eq_true,decide_eq_true_eq] at h
 simp only [iJ,h.1,cond_true,h.2]
theorem ii {n:Int}{b:Bs}{e:Int}:(ar n b e).length≤b.length:=by
 unfold ar;cases cU n b e
 ·exact le_refl _
 ·simp only [cond_true,length_drop];omega
theorem xq {b:Bs}(hl:bC b 0>0):(dV b 0).length<b.length:=by
 have h1:(ar 1 b 0).length<b.length:=by
  rw [V9] at hl
  have hk:cU 1 b 0=true:=by simp only [cU,decide_true,decide_eq_true (show (1:Int)≤b.length by omega)];rfl
  unfold ar
  rw [hk]
  simp only [cond_true,length_drop]
  omega
 unfold dV;cases dp b 0
 ·exact h1
 ·exact Nat.lt_of_le_of_lt ii h1
theorem Aj:∀(k j:Nat) (b:Bs) (acc:List (Int × Int)),b.length<k→b.length<j→kp k b acc=kp j b acc
 | 0,_,_,_,h,_=>absurd h (not_lt_zero _)
 |_,0,_,_,_,h=>absurd h (not_lt_zero _)
 |k+1,j+1,b,acc,h1,h2=>by
  unfold kp
  by_cases hl:bC b 0>0
  ·have:=xq hl
   rw [decide_eq_true hl,Aj k j (dV b 0) _ (by omega) (by omega)]
  ·rw [decide_eq_false hl];rfl
theorem IJ {b:Bs}{acc:List (Int × Int)}(hl:bC b 0>0)(ho:bQ b 0=true):kp (b.length+1) b acc=kp ((dV b 0).length+1) (dV b 0) (acc++ [(cV b 0,cW b 0)]):=by
 have:=xq hl
 rw [Aj ((dV b 0).length+1) b.length (dV b 0) _ (by omega) (by omega)]
 simp only [kp,decide_eq_true hl,ho,cond_true]
theorem LD {b:Bs}{acc:List (Int × Int)}(hl:bC b 0>0)(ho:bQ b 0=false):kp (b.length+1) b acc=none:=by
 simp only [kp,decide_eq_true hl,ho,cond_true,cond_false]
theorem LE {b:Bs}{acc:List (Int × Int)}(hl:¬bC b 0>0):kp (b.length+1) b acc=some acc:=by
 simp only [kp,decide_eq_false hl,cond_false]
theorem LF:∃inf:TypeInfo,prog.info? 94=some inf∧inf.size=2∧inf.bytes+1≤1000∧inf.zero=some (.agg #[.int .u32 0,.int .i64 0]):=
 ⟨(prog.info? 94).getD default,by kernel_rfl,by kernel_rfl,le_of_ble_eq_true (by kernel_rfl),by kernel_rfl⟩
theorem LG {T T1:VT}{s x:Operand}{l:List (Nat × TV)}{es es2:List (List TV)}{k n:Nat}{bn:Bool}(hs:cR T 2 (aA ae l s)=some (es,k,n,bn,T1))(hx:jr 2 (aA ae l x)=some es2)(hb:es.length+es2.length≤32000001):
    bp prog ae 0 T (.call ⟨.builtin .append,#[s,x],#[70,70]⟩) l (.vec 2 (es++es2) (.tail k (n+es2.length))) {T1 with tails:=T1.tails.set k (n+es2.length,2,bn)}:=by
  obtain ⟨inf,i1,i2,i3,i4⟩:=LF
  have h:=fq (inf:=inf) (P:=prog) (G:=ae) (ro:=0) (T:=T) (T1:=T1) (t:=70) (tx:=70) (s:=s) (x:=x) (l:=l) (es:=es) (es2:=es2) (k:=k) (n:=n) (bn:=bn) Tryz.underlying70 i1 i4 (by rw [i2];rfl) (by rw [i2];decide) (by kernel_rfl) (by rw [i2];exact hs) (by rw [i2];exact hx)
    (by have h1:=i3
        have h2:=Nat.mul_le_mul hb h1
        omega)
  rw [i2] at h
  exact h
theorem eS (f g:Nat→Option Nat):∀l:List (Int × Int),br f g (l.map aK)=l.map aK
 |[]=>rfl
 |a::l=>by simp only [map_cons,br,eS f g l];rfl
theorem IK:∀(l:List (Int × Int)) p,((l++ [p]).map aK)=l.map aK++ [aK p]:=λl p=>by rw [List.map_append];rfl
def IL (O:Bs→Int→Int→VO)(b0:Bs)(e:Exit)(vs:List TV)(T:VT):Prop:=
 (∃(acc:List (Int × Int)) (bz:Bs) (az ez:Int),vn b0=some acc∧e=.normal∧vs=tc (acc.map aK)∧T=⟨[O bz az ez],[(acc.length,2,true)]⟩)∨
 (∃(Lz bz:Bs) (az ez cz dz:Int),vn b0=none∧e=.ret∧vs=tc Lz∧T=⟨[O bz az ez,.cells [.val (.int .u32 cz),.val (.int .i64 dz)]],[(Lz.length,2,true)]⟩)
theorem IM {O:Bs→Int→Int→VO}{b0:Bs}{K:KX}(hK:QW O (aX b0) (gk b0) K){e:Exit}{vs:List TV}{T:VT}(h:IL O b0 e vs T):K e (aI 25 Ah vs) T []:=by
 rcases h with ⟨acc,bz,az,ez,h1,rfl,rfl,rfl⟩ | ⟨Lz,bz,az,ez,cz,dz,h1,rfl,rfl,rfl⟩
 ·have:=hK bz [] az ez 0 0
  simp only [gk,h1,Option.isSome_some,cond_true,aX,getD_some,length_map] at this
  exact this
 ·have:=hK bz Lz az ez cz dz
  simp only [gk,h1,Option.isSome_none,cond_false] at this
  exact this
structure Q0 where
 b:Bs
 a:Int
 acc:List (Int × Int)
theorem LH {b0:Bs}(h0:IsB b0)(K:KX)(hK:QW aG (aX b0) (gk b0) K):VWx prog ae none 0 (aE prog ot 0) (aI 25 Ah (tc [])) ⟨[aG b0 0 0],[(0,2,true)]⟩ [] K:=by
 let sl:Q0→List TV:=λs=>tc (s.acc.map aK)
 let TT:Q0→VT:=λs=>⟨[aG s.b s.a 0],[(s.acc.length,2,true)]⟩
 refine dM (f:=ot) (id:=0) (by kernel_rfl) 25 Ah (λs:Q0=>s.b.length) sl TT (λs=>IsB s.b∧s.acc.length+s.b.length≤b0.length∧kp (s.b.length+1) s.b s.acc=vn b0) 1 1 (λ_ _=>⟨le_refl _,le_refl _⟩)
  (IL aG b0) (λs hs=> ?_) ⟨b0,0,[]⟩ ⟨h0,by simp,rfl⟩ K (λe vs T hq=>IM hK hq)
 obtain ⟨b,a,acc⟩:=s
 obtain ⟨hb,hlen,hgo⟩:=hs
 have hsm:=h0.small
 simp only at hb hlen hgo
 have hS:bu prog ae (aT [(kf,m4),(lc,MU)]):=aZ λp hp=>by
  rcases mem_cons.1 hp with rfl | hp;exact oq
  obtain rfl:=mem_singleton.1 hp;exact QY
 have hv:=QX b (acc.map aK) a
 rw [length_map] at hv
 refine bU ac aa hS ag (hv _) ?_
 refine ⟨⟨rfl,hb⟩,?_⟩
 by_cases hl:bC b 0>0
 ·refine bd (decide_eq_true hl) ⟨⟨rfl,hb⟩,?_⟩
  cases ho:bQ b 0
  ·exact bd rfl ⟨rfl,rfl,.inr ⟨acc.map aK,_,_,_,_,_,by rw [←hgo];exact LD hl ho,rfl,by simp only [tc,length_map],by rw [length_map];rfl⟩⟩
  ·have hlt:=xq hl
   have he:=QZ ho
   try delta CB
   rw [he]
   refine bg rfl ⟨?_,rfl,rfl,⟨dV b 0,gH b 0 a,acc++ [(cV b 0,cW b 0)]⟩,⟨Cy hb,by simp only [List.length_append,length_cons,length_nil];omega,by rw [←hgo];exact (IJ hl ho).symm⟩,hlt,.inr ⟨?_,?_⟩⟩
   ·have h:=LG (T:=⟨[aG (dV b 0) (gH b 0 a) 0,.cells [.val (.int .u32 (cV b 0)),.val (.int .i64 (cW b 0))]],[(acc.length,2,true)]⟩) (T1:=⟨[aG (dV b 0) (gH b 0 a) 0,.cells [.val (.int .u32 (cV b 0)),.val (.int .i64 (cW b 0))]],[(acc.length,2,true)]⟩) (s:=.tmp 20) (x:=.tmp 22) (l:= [(20,.vec 2 (acc.map aK) (.tail 0 acc.length)),(22,.vec 2 [aK (cV b 0,cW b 0)] .full)]) (es:=acc.map aK) (es2:= [aK (cV b 0,cW b 0)]) (k:=0) (n:=acc.length) (bn:=true)
     (by simp [aA,eF,cR]) rfl (by simp only [length_map,length_cons,length_nil];omega)
    exact h
   ·simp only [VT.keep,List.take_succ_cons,List.take_zero,map_cons,map_nil]
    rw [show VO.cells [.val (.bool true),.vec 1 (dV b 0) .none,.val (.int .i64 (gH b 0 a)),.val (.int .i64 0)]=aG (dV b 0) (gH b 0 a) 0 from rfl,bK (Cy hb)]
    simp only [TT,List.length_append,length_cons,length_nil]
   ·have e1:=eS (ap 1) (ap 1) (acc++ [(cV b 0,cW b 0)])
    rw [IK] at e1
    simp only [aw,TV.ren,e1,Tok.ren]
    simp only [sl,tc,IK,List.length_append,length_map,length_cons,length_nil]
    rfl
 ·exact bg (decide_eq_false hl) ⟨rfl,rfl,.inl ⟨acc,b,a,0,by rw [←hgo];exact LE hl,rfl,by simp only [tc,length_map],rfl⟩⟩
theorem OF {b:Bs}(h:IsB b):dy prog ae (Vn aG b (aX b) (gk b) (aE prog ot 0)):=bO λp hp=>by
 obtain rfl:=mem_singleton.1 hp
 exact cd λK hK=>LH h K hK
theorem OG {b:Bs}(h:gk b=false):aX b= []:=by
 unfold aX gk at*
 cases hc:vn b with
 |none=>rfl
 |some l=>rw [hc] at h;cases h
theorem uJ (b:Bs)(f g:Nat→Option Nat):br f g (aX b)=aX b:=eS f g _
theorem IN {b:Bs}{x:TV}{ok:Bool}(h:ok=gk b)(hx:x=(bif ok then .tup [.vec 2 (aX b) (.tail 0 (aX b).length),.val (.bool true)] else .tup [.val (.slice none 0 0),.val (.bool false)])):TVle (x.ren (ap 0) (ap 0)) (Ai b):=by
 subst h hx
 unfold Ai
 cases h:gk b
 ·rw [OG h]
  exact TVle.tup ⟨TVle.nil 2,TVle.refl _,trivial⟩
 ·refine TVle.of_eq ?_
  simp only [cond_true,TV.ren,aw,uJ,Tok.ren]
  rfl
theorem Q3 {b:Bs}(hb:IsB b):VCx prog ae 0 ot [.vec 1 b .none] ⟨[],[]⟩ λx T'=>x=Ai b∧T'=⟨[],[]⟩:=by
 refine VCx.toLe (Q:=λT'=>T'=⟨[],[]⟩) (VCx.keepQ 0 0 (le_refl _) (le_refl _) (aj ac aa (aZ λp hp=>by obtain rfl:=mem_singleton.1 hp;exact uH) (OF hb) (Us b (aX b) (gk b) _) ?_))
 refine ⟨hb,rfl,⟨rfl,rfl,rfl,⟨rfl,trivial⟩,rfl,rfl,rfl⟩,λbz Lz az ez cz dz=> ?_⟩
 cases h:gk b
 ·exact ⟨IN h.symm rfl,rfl⟩
 ·exact ⟨IN h.symm rfl,rfl⟩
theorem OH (b:Bs)(f g:Nat→Option Nat):(Ai b).ren f g=Ai b:=by
 simp only [Ai,TV.ren,aw,uJ,Tok.ren]
def ly (kind:IntKind)(n:Nat):be:=λro ys T K=>match ys with
 |[.ptr k 0]=>match T.objs[k]? with
  |some (.cells [.val (.bool true),.vec 1 b .none,.val (.int .i64 a),.val (.int .i64 e)])=>(ble ro k=true∧IsB b)∧∀(z:Int) (bz:Bs) (az ez:Int),(z=aN n b e∧bz=ar n b e∧ez=au n b e)→K (.val (.int kind z)) {T with objs:=T.objs.set k (aG bz az ez)}
  |_=>False
 |_=>False
def Ak:be:=λro ys T K=>match ys with
 |[.ptr k 0,.val (.int .i64 n)]=>match T.objs[k]? with
  |some (.cells [.val (.bool true),.vec 1 b .none,.val (.int .i64 a),.val (.int .i64 e)])=>(ble ro k=true∧IsB b)∧∀(v bz:Bs) (az ez:Int),(v=b9 n b e∧bz=ar n b e∧ez=au n b e)→K (.vec 1 v .none) {T with objs:=T.objs.set k (aG bz az ez)}
  |_=>False
 |_=>False
def Bd:be:=λro ys T K=>match ys with
 |[.ptr k 0,.val (.int .i64 n)]=>match T.objs[k]? with
  |some (.cells [.val (.bool true),.vec 1 b .none,.val (.int .i64 a),.val (.int .i64 e)])=>(ble ro k=true∧IsB b)∧∀(v bz:Bs) (az ez:Int),(v=b9 n b e∧bz=ar n b e∧ez=au n b e)→K (.ptr T.objs.length 0) {T with objs:=T.objs.set k (aG bz az ez)++ [aG v 0 0]}
  |_=>False
 |_=>False
def xr:be:=λro ys T K=>match ys with
 |[.ptr k 0]=>match T.objs[k]? with
  |some (.cells [.val (.bool true),.vec 1 b .none,.val (.int .i64 a),.val (.int .i64 e)])=>(ble ro k=true∧IsB b)∧∀(v bz:Bs) (az ez:Int),(v=b9 (bC b e) b e∧bz=ar (bC b e) b e∧ez=au (bC b e) b e)→K (.vec 1 v .none) {T with objs:=T.objs.set k (aG bz az ez)}
  |_=>False
 |_=>False
theorem mD {kind:IntKind}{n:Nat}{ro:Nat}{ys:List TV}{T:VT}{K:TV→VT→Prop}(h:ly kind n ro ys T K):lu kind n ro ys T K:=by
 unfold ly at h
 split at h
 ·split at h
  ·rename_i ho
   unfold lu
   simp only [ho]
   exact ⟨h.1,h.2 _ _ _ _ ⟨rfl,rfl,rfl⟩⟩
  ·exact h.elim
 ·exact h.elim
theorem CC {ro:Nat}{ys:List TV}{T:VT}{K:TV→VT→Prop}(h:Ak ro ys T K):Cp ro ys T K:=by
 unfold Ak at h
 split at h
 ·split at h
  ·rename_i ho
   unfold Cp
   simp only [ho]
   exact ⟨h.1,h.2 _ _ _ _ ⟨rfl,rfl,rfl⟩⟩
  ·exact h.elim
 ·exact h.elim
theorem LI {ro:Nat}{ys:List TV}{T:VT}{K:TV→VT→Prop}(h:Bd ro ys T K):xi ro ys T K:=by
 unfold Bd at h
 split at h
 ·split at h
  ·rename_i ho
   unfold xi
   simp only [ho]
   exact ⟨h.1,h.2 _ _ _ _ ⟨rfl,rfl,rfl⟩⟩
  ·exact h.elim
 ·exact h.elim
theorem IP {ro:Nat}{ys:List TV}{T:VT}{K:TV→VT→Prop}(h:xr ro ys T K):sV ro ys T K:=by
 unfold xr at h
 split at h
 ·split at h
  ·rename_i ho
   unfold sV
   simp only [ho]
   exact ⟨h.1,h.2 _ _ _ _ ⟨rfl,rfl,rfl⟩⟩
  ·exact h.elim
 ·exact h.elim
end Go.Proofs.YtaijldpbpimdlaaGreatDoor