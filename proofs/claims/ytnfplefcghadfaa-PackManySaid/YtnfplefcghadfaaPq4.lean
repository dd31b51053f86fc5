/-Part 4 of the proof of packMany_holds:Vfin,Vlp,ValB2 ... No condition. -/
import Derived.Sort.LoopGhostIn
import Derived.RangeFuncNested
import Derived.ProofKit
import Derived.OpenShut
import Derived.Lib.SmallJoins
import Derived.Sort.Grow
import Derived.Test.YtnfplefcghadfaaPq1
import Derived.Test.YtnfplefcghadfaaPq2
import Derived.Test.YtnfplefcghadfaaPq3
set_option maxRecDepth 100000
namespace Go.Proofs.Ytnfplefcghadfaa
section
open Go.RowKit

section
variable {P:Program} {G:ax} {F:fS}
theorem Fix.of_min {ro:Nat} {g:Gh} {T T' :VT} {w w' :World} (h:Fix (min ro T.objs.length) g T w T' w'):Fix ro g T w T' w' :=
 ⟨h.len,fun i hi hl=>h.same i (by omega) hl,fun i o b hi ho=>h.heap i o b (by have:=(List.getElem?_eq_some_iff.1 ho).1;omega) ho⟩
theorem sa {ops:Array Oper} {p:List (Oper × PK)} (h:pE P ops=some p):f9 P ops=some p:=by
 unfold pE at h
 split at h
 ·rename_i q hq
  cases hb:(vK q&&(ga P ops).isSome) with
  | true=>rw [hb] at h;cases h
  | false=>rw [hb] at h;rw [hq];exact h
 ·cases h
theorem sb {ops:Array Oper} {p:List (Oper × PK)} (h:pF P F ops=some p):f9 P ops=some p:=by
 unfold pF at h
 cases hb:(F ⟨some 999999, .move (.tmp 0),0, "", #[],none⟩ [] ⟨[], []⟩).isSome with
 | true=>rw [hb] at h;exact h
 | false=>
  rw [hb,cond_false] at h
  cases hs:Nat.ble ops.size 12 with
  | true=>rw [hs] at h;exact sa h
  | false=>rw [hs] at h;cases h
theorem zA {call:eP} {rnd:fI} (hc:ez P G call) (hrr:fu P G rnd) (hm:P.follows .mixedOrders=true) {rd:Option Nat} {ro id:Nat} {ops:Array Oper} {σ:List TV} {T:VT} {D:List Nat} {Q:KX}
  (h:vL P G F call rnd ro ops σ T fun σ T=>Q .normal σ T D):VWx P G rd ro (.region id ops true) σ T D Q:=by
 intro r g w a rw0 hG hσ hd hD hrd
 unfold vL at h
 cases hb:rS ops with
 | false=>rw [hb] at h;exact h.elim
 | true=>
  rw [hb] at h
  simp only [cond_true] at h
  have hnd:∀(j:Nat) o,ops[j]?=some o→bB o.op=true:=fun j o ho=>by
   obtain ⟨hlt,he⟩:=Array.getElem?_eq_some_iff.1 ho
   exact List.all_eq_true.1 hb o (by rw [←he];exact Array.mem_toList_iff.2 (Array.getElem_mem hlt))
  have old:∀p,f9 P ops=some p→cK P G F call rnd ro ops T false p σ T (fun σ T=>Q .normal σ T D)→(Code.region id ops true).wpIn (bW r) 0 P (fun e a' w' =>∃g' σ' T' D',Q e σ' T' D' ∧Evo g w g' w' ∧RW g' T' w' ∧VRs g' w' σ' a'.tmps.toList∧a'.defers=D'.map (mk g')∧(∀id∈D',(g'.obj id).isSome=true)∧Fix ro g T w T' w') a w:=fun p hp h=>by
   unfold f9 at hp
   split at hp
   ·rename_i pl hpl
    cases hk:(Region.noSelect ops&&Nat.beq pl.length ops.size&&ia ops pl (Array.replicate ops.size false)) with
    | false=>rw [hk] at hp;cases hp
    | true=>
     rw [hk] at hp
     simp only [Bool.and_eq_true] at hk
     obtain ⟨⟨hns,hlen⟩,hchk⟩:=hk
     have hlen:=Nat.eq_of_beq_eq_true hlen
     injection hp with hp;subst hp
     have e0:=Evo.of_gr rw0 (Gr.refl w).drew
     have f0:Fix (min ro T.objs.length) g T w T w.drew:=Fix.of_same (Same.of_gr rw0 (Gr.refl w).drew) List.take_length
     have r1:RW g T w.drew:=rw0.drew
     have key:=dL (r:=r) hc hrr hnd (Region.noSelect_spec hns) (Nat.min_le_left ro T.objs.length) (K:=fun σ T=>Q .normal σ T D) (gs:=g) (Ts:=T) (ws:=w) (ds:=a.defers)
      (QQ:=fun a' w' =>∃g' σ' T' D',Q .normal σ' T' D' ∧Evo g w g' w' ∧RW g' T' w' ∧VRs g' w' σ' a'.tmps.toList∧a'.defers=D'.map (mk g')∧(∀id∈D',(g'.obj id).isSome=true)∧Fix ro g T w T' w')
      (fun σ' T' g' w' a' hk e r' hσ' hd' hx=>⟨g',σ',T',D,hk,e,r',hσ',by rw [hd',hd,iv e hD],dK e hD,hx.of_min⟩)
      pl (Array.replicate ops.size false) T false σ T hchk h g w.drew g w.drew a r1 (hG.mono e0) r1 (hσ.mono e0) rfl (Evo.refl _ _) (Same.refl _ _ _) List.take_length (fun _=>⟨rfl,rfl,rfl⟩) e0 f0 (Nat.min_le_right _ _)
      (fun k o _ hk=>absurd hk (by
       rw [Array.getD_eq_getD_getElem?,Array.getElem?_replicate]
       split<;>simp)) (by simp)
     rw [hlen] at key
     refine wpIn_mono (wpIn_region_any hm (oz _ _ _ _ key)) ?_
     intro e a' w' hq
     cases e<;>first | exact hq | exact hq.elim
   ·cases hp
  split at h
  ·rename_i p hp
   exact old p (sb hp) h
  ·split at h
   ·rename_i p hp
    obtain ⟨hns,st,hchk⟩:=na hp
    have e0:=Evo.of_gr rw0 (Gr.refl w).drew
    have f0:Fix (min ro T.objs.length) g T w T w.drew:=Fix.of_same (Same.of_gr rw0 (Gr.refl w).drew) List.take_length
    have r1:RW g T w.drew:=rw0.drew
    have key:=qw (r:=r) hc hrr st (K:=fun σ T=>Q .normal σ T D) (gs:=g) (Ts:=T) (ws:=w) (ds:=a.defers)
     (QQ:=fun a' w' =>∃g' σ' T' D',Q .normal σ' T' D' ∧Evo g w g' w' ∧RW g' T' w' ∧VRs g' w' σ' a'.tmps.toList∧a'.defers=D'.map (mk g')∧(∀id∈D',(g'.obj id).isSome=true)∧Fix ro g T w T' w')
     (fun σ' T' g' w' a' hk e r' hσ' hd' hx=>⟨g',σ',T',D,hk,e,r',hσ',by rw [hd',hd,iv e hD],dK e hD,hx.of_min⟩)
     ops.size p (Array.replicate ops.size false) T [] σ T (Array.replicate ops.size false) g w.drew a (fun _=>none) hchk h (VInv.start (hσ.mono e0) r1) (hG.mono e0) rfl e0 f0 (Nat.min_le_right _ _) (by
      unfold iC
      rw [Array.toList_replicate]
      exact Nat.le_trans List.count_le_length (by simp))
    refine wpIn_mono (wpIn_region_any hm key) ?_
    intro e a' w' hq
    cases e<;>first | exact hq | exact hq.elim
   ·split at h
    ·rename_i p hp
     exact old p hp h
    ·split at h
     ·rename_i t p hl hp
      obtain ⟨ys,hys⟩:=List.getLast?_eq_some_iff.1 hl
      obtain rfl:ops=ys.toArray.push t:=by
       have:=congrArg List.toArray hys
       simpa using this
      have hcut:(ys.toArray.push t).toList.dropLast.toArray=ys.toArray:=by simp
      rw [hcut] at hp h
      cases hb2:(t.guard.isNone&&Nat.beq (co t.after.toList) (2^ys.toArray.size-1)) with
      | false=>rw [hb2] at h;exact h.elim
      | true=>
       rw [hb2] at h
       simp only [cond_true] at h
       simp only [Bool.and_eq_true] at hb2
       obtain ⟨hgd,hlast⟩:=hb2
       obtain ⟨hns,st,hchk⟩:=na hp
       have e0:=Evo.of_gr rw0 (Gr.refl w).drew
       have f0:Fix (min ro T.objs.length) g T w T w.drew:=Fix.of_same (Same.of_gr rw0 (Gr.refl w).drew) List.take_length
       have r1:RW g T w.drew:=rw0.drew
       have key:=qw (r:=r) hc hrr st (K:=fun σ' T' =>kG P G F call rnd (min ro T.objs.length) t σ' T' fun σ T=>Q .normal σ T D) (gs:=g) (Ts:=T) (ws:=w) (ds:=a.defers)
        (QQ:=fun a' w' =>wpOpIn (bW r) 0 P (ys.toArray.push t) (dk fun a' w' =>∃g' σ' T' D',Q .normal σ' T' D' ∧Evo g w g' w' ∧RW g' T' w' ∧VRs g' w' σ' a'.tmps.toList∧a'.defers=D'.map (mk g')∧(∀id∈D',(g'.obj id).isSome=true)∧Fix ro g T w T' w') ys.toArray.size
         (fun a' w' =>∃g' σ' T' D',Q .normal σ' T' D' ∧Evo g w g' w' ∧RW g' T' w' ∧VRs g' w' σ' a'.tmps.toList∧a'.defers=D'.map (mk g')∧(∀id∈D',(g'.obj id).isSome=true)∧Fix ro g T w T' w') a' w')
        (fun σ' T' g' w' a' hk e r' hσ' hd' hx=>by
         unfold wpOpIn
         have hw:Region.wanted t (yielded (ys.toArray.push t) a'.tmps)=true:=by
          unfold Region.wanted
          rw [Option.isNone_iff_eq_none.1 hgd]
         simp only [Array.getElem?_push,if_true,hw]
         exact ig hc hrr hk r g' w' a' _ _ r' (hG.mono e) hσ' fun σ'' T'' g'' w'' a'' _ hk' e' r'' hσ'' hd'' hx' =>⟨g'',σ'',T'',D,hk',e.trans e',r'',hσ'',by rw [hd'',hd',hd,iv (e.trans e') hD],dK (e.trans e') hD,(hx.trans e hx').of_min⟩)
        ys.toArray.size p (Array.replicate ys.toArray.size false) T [] σ T (Array.replicate ys.toArray.size false) g w.drew a (fun _=>none) hchk h (VInv.start (hσ.mono e0) r1) (hG.mono e0) rfl e0 f0 (Nat.min_le_right _ _) (by
         unfold iC
         rw [Array.toList_replicate]
         exact Nat.le_trans List.count_le_length (by simp))
       have key2:=vX st.flow (xy hlast) _ _ _ _ (by simp) key
       refine wpIn_mono (wpIn_region_any hm (by rw [Array.size_push,pI];exact key2)) ?_
       intro e a' w' hq
       cases e<;>first | exact hq | exact hq.elim
     ·exact h.elim
theorem VWx.here {rd:Option Nat} {ro:Nat} {c:Code} {σ:List TV} {T:VT} {D:List Nat} {Q:KX} {e:Exit} (h:Q e σ T D) (k:∀(F:Fence) (a:Act) w,∀R:Exit→Act→World→Prop,R e a w→c.wpIn F 0 P R a w):VWx P G rd ro c σ T D Q:=
 fun r g w a rw0 hG hσ hd hD _=>k _ a w _ ⟨g,σ,T,D,h,Evo.refl g w,rw0,hσ,hd,hD,Fix.refl _ _ _ _⟩
theorem VWx.seq {rd:Option Nat} {ro:Nat} {x y:Code} {σ:List TV} {T:VT} {D:List Nat} {Q:KX} (h:VWx P G rd ro x σ T D (kJ (fun σ T D=>VWx P G rd ro y σ T D Q) Q)):VWx P G rd ro (.seq x y) σ T D Q:=by
 intro r g w a rw0 hG hσ hd hD hrd
 refine wpIn_seq (wpIn_mono (h r g w a rw0 hG hσ hd hD hrd) ?_)
 rintro e a' w' ⟨g',σ',T',D',hq,e1,r',hσ',hd',hD',hx⟩
 cases e<;>first
  | exact ⟨g',σ',T',D',hq,e1,r',hσ',hd',hD',hx⟩
  | exact wpIn_mono (hq r g' w' a' r' (hG.mono e1) hσ' hd' hD' (rN e1 hrd)) fun e a'' w'' ⟨g'',σ'',T'',D'',hq',e2,r2,s2,d2,dd2,x2⟩=>⟨g'',σ'',T'',D'',hq',e1.trans e2,r2,s2,d2,dd2,hx.trans e1 x2⟩
theorem VWx.block {rd:Option Nat} {ro id:Nat} {c:Code} {σ:List TV} {T:VT} {D:List Nat} {Q:KX} (h:VWx P G rd ro c σ T D (lK id Q)):VWx P G rd ro (.block id c) σ T D Q:=by
 intro r g w a rw0 hG hσ hd hD hrd
 refine wpIn_block (wpIn_mono (h r g w a rw0 hG hσ hd hD hrd) ?_)
 rintro e a' w' ⟨g',σ',T',D',hq,h⟩
 cases e with
 | exit id' =>
  simp only [Exit.inBlock]
  simp only [lK] at hq
  cases hb:Nat.beq id' id with
  | true=>
   rw [hb] at hq
   rw [if_pos (Nat.eq_of_beq_eq_true hb)];exact ⟨g',σ',T',D',hq,h⟩
  | false=>
   rw [hb] at hq
   rw [if_neg (Nat.ne_of_beq_eq_false hb)];exact ⟨g',σ',T',D',hq,h⟩
 | normal=>exact ⟨g',σ',T',D',hq,h⟩
 | goto l=>exact ⟨g',σ',T',D',hq,h⟩
 | ret=>exact ⟨g',σ',T',D',hq,h⟩
 | panic ch=>exact ⟨g',σ',T',D',hq,h⟩
 | outgrown=>exact ⟨g',σ',T',D',hq,h⟩
theorem VWx.cond {rd:Option Nat} {ro:Nat} {c:Operand} {x y:Code} {σ:List TV} {T:VT} {D:List Nat} {Q:KX} {b:Bool} (hc:aA G σ c= .val (.bool b)) (ht:b=true→VWx P G rd ro x σ T D Q) (hf:b=false→VWx P G rd ro y σ T D Q):VWx P G rd ro (.cond c x y) σ T D Q:=by
 intro r g w a rw0 hG hσ hd hD hrd
 have h1:=cN hG hσ c
 rw [hc] at h1
 exact wpIn_cond_split h1.val_inv (fun h=>ht h r g w a rw0 hG hσ hd hD hrd) (fun h=>hf h r g w a rw0 hG hσ hd hD hrd)
section
variable {b:Frame} {a:Act} {k:List Item} {cs:List Frame} {w:World}
theorem dY {c:Code}:step P (lone (b.atR a (.code (.scope c)::k)) cs w)= .next (lone (b.atR a (.code c:: .inScope c::k)) cs w):=
 step_lone_go (by simp [stepG,stepG.exec,Frame.atR])
theorem qW {c:Code}:step P (lone (b.atR a (.inScope c::k)) cs w)= .next (lone (b.atR a k) cs w):=
 step_lone_go (by simp [stepG,stepG.exec,Frame.atR])
end
def C5 (Q:Exit→Act→World→Prop):Exit→Act→World→Prop
 | .goto _,_,_=>False
 | e,a,w=>Q e a w
theorem lm {F:Fence} {n:Nat} {Q:Exit→Act→World→Prop} {a:Act} {w:World} {c:Code} (h:c.wpIn F n P (C5 Q) a w):(Code.scope c).wpIn F n P Q a w:=by
 intro b k cs hro hb hr
 have h0:(lone (b.atR a (.code (.scope c)::k)) cs w).fenced P F:=fenced_calm hb hr rfl
 obtain ⟨e,a₁,w₁,hq,harr⟩:=h b (.inScope c::k) cs hro hb hr
 cases e with
 | normal=>exact ⟨.normal,a₁,w₁,hq, .head h0 dY (StepsIn.trans harr (.one (fenced_calm hb hr rfl) qW))⟩
 | exit id=>
  have hx:exitTo id (.inScope c::k)=exitTo id k:=by simp [exitTo]
  exact ⟨.exit id,a₁,w₁,hq,fun k' hk=> .head h0 dY (harr.1 k' (by rw [hx];exact hk)),
   fun hr' hk=>let ⟨k₁,h1,h2⟩:=harr.2 hr' (by rw [hx];exact hk);⟨k₁,h1, .head h0 dY h2⟩⟩
 | goto l=>exact hq.elim
 | ret=>exact ⟨_,a₁,w₁,hq, .of_steps (.one h0 dY) harr⟩
 | panic ch=>exact ⟨_,a₁,w₁,hq, .of_steps (.one h0 dY) harr⟩
 | outgrown=>exact ⟨_,a₁,w₁,hq, .of_steps (.one h0 dY) harr⟩
theorem VWx.scope {rd:Option Nat} {ro:Nat} {c:Code} {σ:List TV} {T:VT} {D:List Nat} {Q:KX} (h:VWx P G rd ro c σ T D (xi Q)):VWx P G rd ro (.scope c) σ T D Q:=by
 intro r g w a rw0 hG hσ hd hD hrd
 refine lm (wpIn_mono (h r g w a rw0 hG hσ hd hD hrd) ?_)
 rintro e a' w' ⟨g',σ',T',D',hq,h⟩
 cases e<;>first
  | exact ⟨g',σ',T',D',hq,h⟩
  | exact hq.elim
theorem VWx.loop {rd:Option Nat} {ro:Nat} {c:Code} {σ:List TV} {T:VT} {D:List Nat} {Q:KX} (I:Nat→List TV→VT→List Nat→Prop) (n:Nat) (h0:I n σ T D)
  (round:∀n σ T D,I n σ T D→VWx P G rd ro c σ T D (kJ (fun σ' T' D' =>∃n',n' <n∧I n' σ' T' D') Q)):VWx P G rd ro (.loop c) σ T D Q:=by
 intro r g w a rw0 hG hσ hd hD hrd
 refine wpIn_loop_ghost (fun n a' w' =>∃g' σ' T' D',I n σ' T' D' ∧Evo g w g' w' ∧RW g' T' w' ∧VRs g' w' σ' a'.tmps.toList∧a'.defers=D'.map (mk g')∧(∀id∈D',(g'.obj id).isSome=true)∧Fix ro g T w T' w') n ⟨g,σ,T,D,h0,Evo.refl _ _,rw0,hσ,hd,hD,Fix.refl _ _ _ _⟩ ?_
 rintro m a' w' ⟨g',σ',T',D',hI,e1,r',hσ',hd',hD',hx⟩
 refine wpIn_mono (round m σ' T' D' hI r g' w' a' r' (hG.mono e1) hσ' hd' hD' (rN e1 hrd)) ?_
 rintro e a'' w'' ⟨g'',σ'',T'',D'',hq,e2,r2,s2,d2,dd2,x2⟩
 cases e<;>first
  | exact ⟨g'',σ'',T'',D'',hq,e1.trans e2,r2,s2,d2,dd2,hx.trans e1 x2⟩
  | (obtain ⟨n',hn,hI'⟩:=hq;exact ⟨n',hn,g'',σ'',T'',D'',hI',e1.trans e2,r2,s2,d2,dd2,hx.trans e1 x2⟩)
theorem fL {g:Gh} {T:VT} {w:World} (r:RW g T w) {id b:Nat} {st:LoopState} {pend:Option Code} {σ:List TV} {ps:Array Tmp} {asg body:Code} (ho:T.objs[id]?=some (.loop st pend σ ps asg body)) (hb:g.obj id=some b):
  ∃rec:Loop,w.heap[b]?=some (.loop rec)∧rec.state=st∧rec.pending=pend∧rec.params=ps∧rec.assign=asg∧rec.body=body∧VRs g w σ rec.tmps.toList∧
   ∀st' pend',RW g (T.setLoop id st' pend' σ ps asg body) (w.putObj b (.loop {rec with state:=st',pending:=pend' }))∧Evo g w g (w.putObj b (.loop {rec with state:=st',pending:=pend' }))∧
    ∀ro,ro≤id→Fix ro g T w (T.setLoop id st' pend' σ ps asg body) (w.putObj b (.loop {rec with state:=st',pending:=pend' })):=by
 obtain ⟨b',h1,h2,h3,h4⟩:=r.obj id _ ho rfl
 rw [hb] at h1;injection h1 with h1;subst h1
 obtain ⟨us,fn,db,h5,h6⟩:=h2
 have hlt:=(Array.getElem?_eq_some_iff.1 h5).1
 refine ⟨_,h5,rfl,rfl,rfl,rfl,rfl,h6,fun st' pend' => ?_⟩
 have hnew:=World.putObj_heap_same (w:=w) (o:= .loop {state:=st',pending:=pend',fn:=fn,tmps:=us.toArray,params:=ps,assign:=asg,body:=body,defers:=db}) hlt
 have hoth:∀c,c≠b→(w.putObj b (.loop {state:=st',pending:=pend',fn:=fn,tmps:=us.toArray,params:=ps,assign:=asg,body:=body,defers:=db})).heap[c]?=w.heap[c]?:=fun c hc=>World.putObj_heap_other hc
 have key:∀(hE:∀w',w' =w.putObj b (.loop {state:=st',pending:=pend',fn:=fn,tmps:=us.toArray,params:=ps,assign:=asg,body:=body,defers:=db})→Evo g w g w'),RW g (T.setLoop id st' pend' σ ps asg body) (w.putObj b (.loop {state:=st',pending:=pend',fn:=fn,tmps:=us.toArray,params:=ps,assign:=asg,body:=body,defers:=db}))∧Evo g w g (w.putObj b (.loop {state:=st',pending:=pend',fn:=fn,tmps:=us.toArray,params:=ps,assign:=asg,body:=body,defers:=db})):=fun hE=>
  r.setObj (o' := .loop st' pend' σ ps asg body) ho rfl hb ⟨rfl,rfl,rfl⟩ World.putObj_size hoth (by unfold aT;rw [hnew,h5]) fun _=>⟨us,fn,db,hnew,h6.mono (hE _ rfl)⟩
 have hE:=(r.setObj (o' := .gone) ho rfl hb (w' :=w.putObj b (.loop {state:=st',pending:=pend',fn:=fn,tmps:=us.toArray,params:=ps,assign:=asg,body:=body,defers:=db})) ⟨rfl,rfl,rfl⟩ World.putObj_size hoth (by unfold aT;rw [hnew,h5]) fun h=>by cases h).2
 obtain ⟨k1,k2⟩:=key fun w' hw=>by rw [hw];exact hE
 exact ⟨k1,k2,fun ro hr=>bU r ho rfl hb hr hoth⟩
theorem lR {fn:Func} {ro:Nat} {σ:List TV} {K:TV→VT→Prop} {tmps:Array Value} {g0:Gh} {T0:VT} {w0:World}:∀(D:List Nat) (T T' :VT) (g:Gh) (w:World) (x:TV),jX ro D T=some T' →iq P T' σ fn.results=some x→K x T' →
  RW g T w→VRs g w σ tmps.toList→Evo g0 w0 g w→Fix ro g0 T0 w0 T w→
  LeavesInM (bW none) 0 P fn tmps (fun e w' =>∃v x g' T',e= .returned v∧K x T' ∧Evo g0 w0 g' w' ∧RW g' T' w' ∧VR g' w' x v∧Fix ro g0 T0 w0 T' w') (D.map (mk g)) .returning w
 | [],T,T',g,w,x,h,hr,hk,r,hσ,e,hx=>by
  simp only [jX] at h
  injection h with h;subst h
  obtain ⟨v,h1,h2⟩:=tD (a:={tmps:=tmps,defers:= []}) r hσ hr
  exact ⟨v,h2,v,x,g,T,rfl,hk,e,r,h1,hx⟩
 | id::D,T,T',g,w,x,h,hr,hk,r,hσ,e,hx=>by
  simp only [jX] at h
  split at h
  ·rename_i ho
   cases hb:Nat.ble ro id with
   | false=>rw [hb] at h;cases h
   | true=>
    rw [hb] at h
    simp only [cond_true] at h
    obtain ⟨b,h1,h2,h3,h4⟩:=r.obj id _ ho rfl
    have hlt:=(Array.getElem?_eq_some_iff.1 h2).1
    have hnew:=World.putObj_heap_same (w:=w) (o:= .deferred none) hlt
    have hoth:∀c,c≠b→(w.putObj b (.deferred none)).heap[c]?=w.heap[c]?:=fun c hc=>World.putObj_heap_other hc
    obtain ⟨k1,k2⟩:=r.setObj (o' := .gone) ho rfl h1 (w' :=w.putObj b (.deferred none)) ⟨rfl,rfl,rfl⟩ World.putObj_size hoth (by unfold aT;rw [hnew,show w.heap[b]?=_ from h2]) fun h=>by cases h
    have k3:Fix ro g T w (T.kill id) (w.putObj b (.deferred none)):=bU r ho rfl h1 (Nat.le_of_ble_eq_true hb) hoth
    refine ⟨fun h=>(by cases h), .inl ⟨b,w.putObj b (.deferred none),by simp [mk,h1],run_takeDeferred h2, ?_⟩⟩
    exact lR D (T.kill id) T' g _ x h hr hk k1 (hσ.mono k2) (e.trans k2) (hx.trans e k3)
  ·cases h
theorem qx {fn:Func} {ro:Nat} {K:TV→VT→Prop} {σ:List TV} {T:VT} {D:List Nat} (h:oF P fn ro σ T D K):∃T' x,jX ro D T=some T' ∧iq P T' σ fn.results=some x∧K x T' :=by
 unfold oF at h
 split at h
 ·rename_i T' hT
  split at h
  ·rename_i x hx;exact ⟨T',x,hT,hx,h⟩
  ·exact h.elim
 ·exact h.elim
theorem VCx.enter {ro:Nat} {f:FuncId} {fn:Func} {c:Code} {xs:List TV} {T:VT} {K:TV→VT→Prop} (hf:P.funcs[f]?=some fn) (hb:fn.body=some c)
    (h:VWx P G none ro c (rV fn xs) T [] (vM P fn ro K)):VCx P G ro f xs T K:=by
  intro g w us rw0 hG hx
  refine rM (r:=none) (n:=0) (callsIn_of_wp_marks hf hb trivial (wpIn_mono (h none g w _ rw0 hG ?_ rfl (fun _ h=>nomatch h) rfl) ?_))
  · have e1:(us.toArray++Array.replicate (fn.ntmps-us.toArray.size) undef).toList=us++(List.replicate (fn.ntmps-xs.length) undef):=by simp [hx.1]
    rw [e1]
    refine hx.app ?_
    have:=VRs.vals g w (List.replicate (fn.ntmps-xs.length) undef)
    simpa using this
  · rintro e a' w' ⟨g',σ',T',D',hq,e1,r',hσ',hd',hD',hx'⟩
    cases e with
    | normal=>
      obtain ⟨T'',x,h1,h2,h3⟩:=qx (P:=P) hq
      simp only [bodyPostM,hd']
      exact lR D' T' T'' g' w' x h1 h2 h3 r' hσ' e1 hx'
    | ret=>
      obtain ⟨T'',x,h1,h2,h3⟩:=qx (P:=P) hq
      simp only [bodyPostM,hd']
      exact lR D' T' T'' g' w' x h1 h2 h3 r' hσ' e1 hx'
    | exit id=>exact hq.elim
    | goto l=>exact hq.elim
    | panic ch=>exact hq.elim
    | outgrown=>exact hq.elim
def vY (P:Program) (G:ax) (run:pG):Prop:=∀rd ro c σ T D K,run rd ro c σ T D K→VWx P G rd ro c σ T D K
theorem oL {g:Gh} {w:World}:∀(ps:List Tmp) (xs σ:List TV) (us tmps:List Value),VRs g w xs us→VRs g w σ tmps→VRs g w (ic ps xs σ) ((ps.zip us).foldl (fun t p=>t.set p.1 p.2) tmps)
 | [],xs,σ,us,tmps,hx,hσ=>by simpa [ic] using hσ
 | p::ps, [],σ,us,tmps,hx,hσ=>by
  have:us= []:=List.eq_nil_of_length_eq_zero hx.1
  subst this
  simpa [ic] using hσ
 | p::ps,x::xs,σ, [],tmps,hx,hσ=>by have:=hx.1;simp at this
 | p::ps,x::xs,σ,u::us,tmps,hx,hσ=>by
  simp only [ic,List.zip_cons_cons,List.foldl_cons]
  exact oL ps xs _ us _ ⟨by simpa using hx.1,fun j y v hy hv=>hx.2 (j+1) y v (by simpa using hy) (by simpa using hv)⟩ (hσ.set p (hx.2 0 x u rfl rfl))
theorem tO (ps:Array Tmp) (us:List Value) (tmps:Array Value):((ps.zip us.toArray).foldl (fun tmps (t,a)=>tmps.setIfInBounds t a) tmps).toList=(ps.toList.zip us).foldl (fun t p=>t.set p.1 p.2) tmps.toList:=by
 rw [←Array.foldl_toList]
 simp only [Array.toList_zip]
 generalize ps.toList.zip us=l
 induction l generalizing tmps with
 | nil=>rfl
 | cons p l ih=>simp only [List.foldl_cons];rw [ih];simp
theorem sc {ro id:Nat} {st:LoopState} {pend:Option Code} {T:VT} {K:VT→Prop} (h:ft ro id st pend T K):∃st0 pend0 σ ps asg body,T.objs[id]?=some (.loop st0 pend0 σ ps asg body)∧ro≤id∧K (T.setLoop id st pend σ ps asg body):=by
 unfold ft at h
 split at h
 ·rename_i st0 pend0 σ ps asg body ho
  cases hb:Nat.ble ro id with
  | false=>rw [hb] at h;exact h.elim
  | true=>rw [hb] at h;exact ⟨_,_,_,_,_,_,ho,Nat.le_of_ble_eq_true hb,h⟩
 ·exact h.elim
theorem xA {run:pG} (hrun:vY P G run):fu P G (lL run):=by
 intro ro id xs T K h g w us rw0 hG hxs
 unfold lL at h
 split at h
 ·rename_i σ ps asg body ho
  cases hb:(Nat.ble ro id&&Nat.beq ps.size xs.length) with
  | false=>rw [hb] at h;exact h.elim
  | true=>
   rw [hb] at h
   simp only [Bool.and_eq_true] at hb
   obtain ⟨hro,hsz⟩:=hb
   have hro:=Nat.le_of_ble_eq_true hro
   have hsz:=Nat.eq_of_beq_eq_true hsz
   simp only [cond_true] at h
   obtain ⟨b,hgb,_⟩:=rw0.obj id _ ho rfl
   obtain ⟨rec,h1,h2,h3,h4,h5,h6,h7,_⟩:=fL rw0 ho hgb
   refine ⟨b,_,_,_,_,hgb,run_yield h1 (by rw [h4];simpa [hxs.1] using hsz.symm), ?_⟩
   rw [h4,h5,h6]
   refine roundIn_of_wpIn (F:=Fence.wide) trivial ?_
   refine wpIn_mono (hrun _ _ _ _ _ _ _ h (some b) g w {tmps:=_,defers:= []} rw0 hG ?_ rfl (fun _ h=>nomatch h) ⟨rfl,hgb⟩) ?_
   ·simp only
    rw [tO]
    exact oL _ _ _ _ _ hxs h7
   ·rintro e a' w' ⟨g',σ',T',D',hq,e1,r',hσ',hd',hD',hx'⟩
    cases e with
    | normal=>
     simp only at hq
     split at hq
     ·rename_i σ2 ps2 asg2 body2 ho2
      have hgb' :=e1.obj id b hgb
      obtain ⟨rec2,k1,k2,k3,k4,k5,k6,k7,k8⟩:=fL r' ho2 hgb'
      obtain ⟨m1,m2,m3⟩:=k8 .busy none
      have hrec:({rec2 with state:= .busy}:Loop)={rec2 with state:= .busy,pending:=none}:=by
       rw [←k3]
      refine ⟨_,run_beginRound k1 k2, ?_⟩
      rw [hrec]
      refine wpIn_mono (hrun _ _ _ _ _ _ _ hq (some b) g' _ a' m1 ((hG.mono e1).mono m2) (hσ'.mono m2) hd' hD' ⟨rfl,hgb'⟩) ?_
      have fx:=hx'.trans e1 (m3 ro hro)
      rintro e a2 w2 ⟨g2,σ2',T2,D2,hq2,e2,r2,hσ2,hd2,hD2,hx2⟩
      have hgb2:=e2.obj id b hgb'
      have ee:=(e1.trans m2).trans e2
      have ff:=fx.trans (e1.trans m2) hx2
      have fin:∀(st:LoopState) (pend:Option Code) (y:TV) (v:Value) (vd:VR g2 w2 y v),ft ro id st pend T2 (fun T=>K y T)→st=(if pend.isNone then .ready else .done)→v= .bool pend.isNone→
        ∃v' w',(Instr.endRound b pend).run P w2= .ok v' w' ∧∃v x g' T',(Ending.returned v' = .returned v)∧K x T' ∧Evo g w g' w' ∧RW g' T' w' ∧VR g' w' x v∧Fix ro g T w T' w' :=by
       intro st pend y v vd hv hst hvv
       obtain ⟨st0,pend0,σ3,ps3,asg3,body3,n1,n2,n3⟩:=sc hv
       obtain ⟨rec3,p1,p2,p3,p4,p5,p6,p7,p8⟩:=fL r2 n1 hgb2
       obtain ⟨q1,q2,q3⟩:=p8 st pend
       refine ⟨_,_,run_endRound pend p1,v,y,g2,_,by rw [hvv],n3, ?_⟩
       rw [←hst]
       exact ⟨ee.trans q2,q1,vd.mono q2,ff.trans ee (q3 ro hro)⟩
      cases e with
      | normal=>exact fin .ready none _ _ (.val (.bool true)) hq2 rfl rfl
      | ret=>exact fin .done (some .ret) _ _ (.val (.bool false)) hq2 rfl rfl
      | exit i=>exact fin .done (some (.exit i)) _ _ (.val (.bool false)) hq2 rfl rfl
      | goto l=>exact hq2.elim
      | panic ch=>exact hq2.elim
      | outgrown=>exact hq2.elim
     ·exact hq.elim
    | ret=>exact hq.elim
    | exit i=>exact hq.elim
    | goto l=>exact hq.elim
    | panic ch=>exact hq.elim
    | outgrown=>exact hq.elim
 ·exact h.elim
theorem sd {ro id:Nat} {σ:List TV} {D:List Nat} {K:KX} {T:VT} (h:ey ro id σ D K T):∃st pend σ' ps asg body e,T.objs[id]?=some (.loop st pend σ' ps asg body)∧ro≤id∧K e σ (T.setLoop id .exhausted pend σ' ps asg body) D∧st≠ .busy∧
  ((pend=none∧e= .normal)∨(pend=some .ret∧e= .ret)∨∃x,pend=some (.exit x)∧e= .exit x):=by
 unfold ey at h
 split at h
 ·rename_i ho
  cases hb:Nat.ble ro id with
  | false=>rw [hb] at h;exact h.elim
  | true=>rw [hb] at h;exact ⟨_,_,_,_,_,_,_,ho,Nat.le_of_ble_eq_true hb,h,(fun h=>by cases h), .inl ⟨rfl,rfl⟩⟩
 ·rename_i ho
  cases hb:Nat.ble ro id with
  | false=>rw [hb] at h;exact h.elim
  | true=>rw [hb] at h;exact ⟨_,_,_,_,_,_,_,ho,Nat.le_of_ble_eq_true hb,h,(fun h=>by cases h), .inr (.inl ⟨rfl,rfl⟩)⟩
 ·rename_i ho
  cases hb:Nat.ble ro id with
  | false=>rw [hb] at h;exact h.elim
  | true=>rw [hb] at h;exact ⟨_,_,_,_,_,_,_,ho,Nat.le_of_ble_eq_true hb,h,(fun h=>by cases h), .inr (.inr ⟨_,rfl,rfl⟩)⟩
 ·exact h.elim
theorem lS {r:Option Nat} {ro id b:Nat} {σ:List TV} {D:List Nat} {K:KX} {T' :VT} (h:ey ro id σ D K T') {g0:Gh} {T0:VT} {w0:World} {g' :Gh} {w' :World} {a' :Act} (r' :RW g' T' w') (hb:g'.obj id=some b) (e1:Evo g0 w0 g' w') (hx:Fix ro g0 T0 w0 T' w')
  (hσ:VRs g' w' σ a'.tmps.toList) (hd:a'.defers=D.map (mk g')) (hD:∀id∈D,(g'.obj id).isSome=true) (v:Value):
  rangePost (bW r) 0 P b (fun e a' w' =>∃g' σ' T' D',K e σ' T' D' ∧Evo g0 w0 g' w' ∧RW g' T' w' ∧VRs g' w' σ' a'.tmps.toList∧a'.defers=D'.map (mk g')∧(∀id∈D',(g'.obj id).isSome=true)∧Fix ro g0 T0 w0 T' w') a' (.returned v) w' :=by
 obtain ⟨st,pend,σ',ps,asg,body,e,n1,n2,n3,n4,n5⟩:=sd h
 obtain ⟨rec3,p1,p2,p3,p4,p5,p6,p7,p8⟩:=fL r' n1 hb
 obtain ⟨q1,q2,q3⟩:=p8 .exhausted pend
 have hrec:({rec3 with state:= .exhausted}:Loop)={rec3 with state:= .exhausted,pending:=pend}:=by rw [←p3]
 refine ⟨_,_,run_endLoop p1 (by rw [p2];exact n4), ?_⟩
 rw [hrec,p3]
 have fin:∃g'' σ'' T'' D'',K e σ'' T'' D'' ∧Evo g0 w0 g'' (w'.putObj b (.loop {rec3 with state:= .exhausted,pending:=pend}))∧RW g'' T'' (w'.putObj b (.loop {rec3 with state:= .exhausted,pending:=pend}))∧VRs g'' (w'.putObj b (.loop {rec3 with state:= .exhausted,pending:=pend})) σ'' a'.tmps.toList∧a'.defers=D''.map (mk g'')∧(∀id∈D'',(g''.obj id).isSome=true)∧Fix ro g0 T0 w0 T'' (w'.putObj b (.loop {rec3 with state:= .exhausted,pending:=pend})):=
  ⟨g',σ,_,D,n3,e1.trans q2,q1,hσ.mono q2,hd,hD,hx.trans e1 (q3 ro n2)⟩
 rcases n5 with ⟨rfl,rfl⟩ | ⟨rfl,rfl⟩ | ⟨x,rfl,rfl⟩
 ·exact fin
 ·exact wpIn_ret fin
 ·exact wpIn_exit fin
theorem sf {α:Type} (l m:List α):(l++m).take l.length=l:=by simp
theorem up (us vs:List Value) (y:Value):(us.toArray++ #[y])++vs.toArray=(us++ [y]++vs).toArray:=by simp
theorem nd {a:Act} {f:Operand} {l:Nat} {fi:FuncId} {us vs:List Value} (h:a.eval f= .func (.func fi) us.toArray vs.toArray) (w:World):
  (resolve a.eval (rangeCall f l) 0).run P w= .ok {target:= .fn (.func fi) vs.toArray,args:=us.toArray++ #[.func (.yield l) #[] #[]]} w:=by
 have hc:a.eval (.const (.func (.yield l) #[] #[]))= .func (.yield l) #[] #[]:=rfl
 simp [resolve,h,hc,Deferred.ofValue]
theorem oM {fi:FuncId} {fn:Func} {args vs:Array Value} (hfn:P.funcs[fi]?=some fn) (hb:fn.body.isSome=true) (hnm:(fn.name== "runtime.NumGoroutine")=false) (w:World):
  (invoke (.fn (.func fi) vs) args).run P w= .ok (.enter fi (args++vs)) w:=by
 have hb' :fn.body≠none:=by intro h;rw [h] at hb;cases hb
 have hnm' :fn.name≠ "runtime.NumGoroutine" :=by simpa using hnm
 simp [invoke,callFunc,hfn,hnm',hb']
theorem VWx.range0 {ro:Nat} {f:Operand} {ps:Array Tmp} {asg body:Code} {σ:List TV} {T:VT} {D:List Nat} {K:KX} {fi:FuncId} {fn:Func} {first ca:List TV} (hf:aA G σ f= .fn (.func fi) first ca)
  (hfn:P.funcs[fi]?=some fn) (hb:fn.body.isSome=true) (hnm:(fn.name== "runtime.NumGoroutine")=false)
  (hc:VCx P G ro fi (first++ [.yld (T.objs.length+1)]++ca) {T with objs:=T.objs++ [.defd]++ [.loop .ready none σ ps asg body]} fun _ T' =>ey ro (T.objs.length+1) σ (T.objs.length::D) K T'):
  VWx P G none ro (.rangeFunc f ps asg body) σ T D K:=by
 intro r g w a rw0 hG hσ hd hD hrd
 have hrd:r=none:=hrd
 subst hrd
 have hv:=cN hG hσ f
 rw [hf] at hv
 obtain ⟨us,vs,h2,h3,h4⟩:=hv.fn_inv
 refine wpIn_rangeFunc fun fd _=> ?_
 obtain ⟨g1,r1,e1,ho1,_⟩:=rw0.new (.deferred (some [])) (o:= .defd) rfl (World.alloc_heap_new _ _)
 have hE:=Evo.of_gr r1 ((Gr.refl (w.alloc (.deferred (some [])))).alloc (.loop {state:= .ready,pending:=none,fn:=fd,tmps:=a.tmps,params:=ps,assign:=asg,body:=body,defers:=w.heap.size}))
 obtain ⟨g2,r2,e2,ho2,_⟩:=r1.new (.loop {state:= .ready,pending:=none,fn:=fd,tmps:=a.tmps,params:=ps,assign:=asg,body:=body,defers:=w.heap.size}) (o:= .loop .ready none σ ps asg body) rfl
  ⟨a.tmps.toList,fd,w.heap.size,World.alloc_heap_new _ _,hσ.mono (e1.trans hE)⟩
 have ee:=e1.trans e2
 have hl:(w.alloc (.deferred (some []))).heap.size=w.heap.size+1:=World.size_alloc ..
 have hl2:({T with objs:=T.objs++ [.defd]}:VT).objs.length=T.objs.length+1:=by simp
 rw [hl,hl2] at ho2
 have ho1' :=e2.obj _ _ ho1
 have f1:Fix ro g T w {T with objs:=T.objs++ [.defd]++ [.loop .ready none σ ps asg body]} ((w.alloc (.deferred (some []))).alloc (.loop {state:= .ready,pending:=none,fn:=fd,tmps:=a.tmps,params:=ps,assign:=asg,body:=body,defers:=w.heap.size})):=
  Fix.of_same (Same.of_gr rw0 (((Gr.refl w).alloc _).alloc _)) (by simp only [List.append_assoc];exact sf _ _)
 refine ⟨w.heap.size+1, [{target:= .collected w.heap.size,args:= #[]}],_,_,_,fi,_,_,run_enterLoop_outer fd a.tmps ps asg body,nd h2 _,fun _ _=>trivial,oM hfn hb hnm _,fun h=>(by cases h), ?_⟩
 have hargs:VRs g2 _ (first++ [.yld (T.objs.length+1)]++ca) (us++ [.func (.yield (w.heap.size+1)) #[] #[]]++vs):=((h3.mono ee).app (VRs.cons (.yld ho2) (VRs.nil _ _))).app (h4.mono ee)
 have hcall:=hc g2 _ _ r2 (hG.mono ee) hargs
 have ha:(us.toArray++ #[Value.func (.yield (w.heap.size+1)) #[] #[]])++vs.toArray=(us++ [Value.func (.yield (w.heap.size+1)) #[] #[]]++vs).toArray:=up us vs _
 rw [ha]
 refine jA (Calls.mono hcall ?_)
 rintro e w' ⟨v,x,g',T',rfl,hq,e3,r',hv,hx⟩
 have eE:=ee.trans e3
 refine lS (a' :={tmps:=a.tmps,defers:= [{target:= .collected w.heap.size,args:= #[]}]++a.defers}) hq r' (e3.obj _ _ ho2) eE (f1.trans ee hx) (hσ.mono eE) ?_ ?_ v
 ·show [_]++a.defers=_
  rw [hd,List.map_cons,iv eE hD]
  simp [mk,e3.obj _ _ ho1']
 ·intro id hid
  rcases List.mem_cons.1 hid with rfl | hid
  ·rw [e3.obj _ _ ho1'];rfl
  ·exact dK eE hD id hid
theorem VWx.range1 {i0 ro:Nat} {f:Operand} {ps:Array Tmp} {asg body:Code} {σ:List TV} {T:VT} {D:List Nat} {K:KX} {fi:FuncId} {fn:Func} {first ca:List TV} {st0:LoopState} {pend0:Option Code} {σ0:List TV} {ps0:Array Tmp} {asg0 body0:Code}
  (hf:aA G σ f= .fn (.func fi) first ca) (hlp:T.objs[i0]?=some (.loop st0 pend0 σ0 ps0 asg0 body0))
  (hfn:P.funcs[fi]?=some fn) (hb:fn.body.isSome=true) (hnm:(fn.name== "runtime.NumGoroutine")=false)
  (hc:VCx P G ro fi (first++ [.yld T.objs.length]++ca) {T with objs:=T.objs++ [.loop .ready none σ ps asg body]} fun _ T' =>ey ro T.objs.length σ D K T'):
  VWx P G (some i0) ro (.rangeFunc f ps asg body) σ T D K:=by
 intro r g w a rw0 hG hσ hd hD hrd
 obtain ⟨hr1,hr2⟩:=hrd
 obtain ⟨b0,rfl⟩:=Option.isSome_iff_exists.1 hr1
 obtain ⟨rec0,k1,_⟩:=fL rw0 hlp hr2
 have hv:=cN hG hσ f
 rw [hf] at hv
 obtain ⟨us,vs,h2,h3,h4⟩:=hv.fn_inv
 refine wpIn_rangeFunc fun fd _=> ?_
 have hE:=Evo.of_gr rw0 ((Gr.refl w).alloc (.loop {state:= .ready,pending:=none,fn:=fd,tmps:=a.tmps,params:=ps,assign:=asg,body:=body,defers:=rec0.defers}))
 obtain ⟨g2,r2,ee,ho2,_⟩:=rw0.new (.loop {state:= .ready,pending:=none,fn:=fd,tmps:=a.tmps,params:=ps,assign:=asg,body:=body,defers:=rec0.defers}) (o:= .loop .ready none σ ps asg body) rfl
  ⟨a.tmps.toList,fd,rec0.defers,World.alloc_heap_new _ _,hσ.mono hE⟩
 have f1:Fix ro g T w {T with objs:=T.objs++ [.loop .ready none σ ps asg body]} (w.alloc (.loop {state:= .ready,pending:=none,fn:=fd,tmps:=a.tmps,params:=ps,assign:=asg,body:=body,defers:=rec0.defers})):=
  Fix.of_same (Same.of_gr rw0 ((Gr.refl w).alloc _)) (sf _ _)
 refine ⟨w.heap.size, [],_,_,_,fi,_,_,run_enterLoop_inner k1 fd a.tmps ps asg body,nd h2 _,fun _ _=>trivial,oM hfn hb hnm _,fun h=>(by cases h), ?_⟩
 have hargs:VRs g2 _ (first++ [.yld T.objs.length]++ca) (us++ [.func (.yield w.heap.size) #[] #[]]++vs):=((h3.mono ee).app (VRs.cons (.yld ho2) (VRs.nil _ _))).app (h4.mono ee)
 have hcall:=hc g2 _ _ r2 (hG.mono ee) hargs
 have ha:(us.toArray++ #[Value.func (.yield w.heap.size) #[] #[]])++vs.toArray=(us++ [Value.func (.yield w.heap.size) #[] #[]]++vs).toArray:=up us vs _
 rw [ha]
 refine jA (Calls.mono hcall ?_)
 rintro e w' ⟨v,x,g',T',rfl,hq,e3,r',hv,hx⟩
 have eE:=ee.trans e3
 refine lS (a' :={tmps:=a.tmps,defers:= []++a.defers}) hq r' (e3.obj _ _ ho2) eE (f1.trans ee hx) (hσ.mono eE) ?_ (dK eE hD) v
 show []++a.defers=_
 rw [hd,iv eE hD];rfl
def aZ (P:Program) (G:ax) (C:FuncId→Option aO):Prop:=∀f W,C f=some W→∀ro xs T K,W ro xs T K→VCx P G ro f xs T K
def gj (P:Program):Bool:=P.funcs.toList.all fun fn=> !fn.body.isSome || !(fn.name== "runtime.NumGoroutine")
theorem xB {C:FuncId→Option aO} (hB:gj P=true) (hC:aZ P G C) {run:pG} (hrun:vY P G run):ez P G (ge P C run):=by
 intro ro f xs T K h
 unfold ge at h
 split at h
 ·rename_i fn hf
  split at h
  ·rename_i c hc
   have hnm:(fn.name== "runtime.NumGoroutine")=false:=by
    have hmem:fn∈P.funcs.toList:=by
     obtain ⟨hlt,he⟩:=Array.getElem?_eq_some_iff.1 hf
     rw [←he];exact Array.mem_toList_iff.2 (Array.getElem_mem hlt)
    have:=List.all_eq_true.1 hB fn hmem
    simpa [hc] using this
   refine ⟨fn,hf,by rw [hc];rfl,hnm, ?_⟩
   split at h
   ·rename_i W hW
    exact hC f W hW ro xs T K h
   ·exact VCx.enter hf hc (hrun _ _ _ _ _ _ _ h)
  ·exact h.elim
 ·exact h.elim
def gO (P:Program) (G:ax) (L:Nat→Option (bP × Code)):Prop:=∀id W c,L id=some (W,c)→∀rd ro σ T D K,W rd ro σ T D K→VWx P G rd ro c σ T D K
theorem ag:gO P G fun _=>none:=fun _ _ _ h=>by cases h
theorem q9 {C:FuncId→Option aO} (hm:P.follows .mixedOrders=true) (hB:gj P=true) (hC:aZ P G C):
  ∀n m,m≤n→∀F L,gO P G L→vY P G (vx P G C F m L)
 | _,0,_,_,_,_,_,_,_,_,_,_,_,h=>by simp only [vx] at h;exact h.elim
 | 0,m+1,hle,_,_,_,_,_,_,_,_,_,_,_=>by omega
 | n+1,m+1,hle,F,L,hL,rd,ro,c,σ,T,D,K,h=>by
  have ih:=fun m hm0=>q9 hm hB hC n m hm0 F L hL
  have ih0:=fun m hm0=>q9 hm hB hC n m hm0 aF (fun _=>none) ag
  have hcal:ez P G (ge P C (vx P G C aF m fun _=>none)):=xB hB hC (ih0 m (by omega))
  have hrnd:fu P G (lL (vx P G C aF m fun _=>none)):=xA (ih0 m (by omega))
  unfold vx at h
  cases c with
  | skip=>exact VWx.here (e:= .normal) h fun F a w R hr=>wpIn_skip hr
  | exit id=>exact VWx.here (e:= .exit id) h fun F a w R hr=>wpIn_exit hr
  | ret=>exact VWx.here (e:= .ret) h fun F a w R hr=>wpIn_ret hr
  | seq a b=>
   refine VWx.seq ((ih m (by omega) _ _ _ _ _ _ _ h).mono fun e σ T D hq=> ?_)
   cases e<;>first
    | exact ih m (by omega) _ _ _ _ _ _ _ hq
    | exact hq
  | cond c x y=>
   simp only at h
   split at h
   ·rename_i b hb
    refine VWx.cond hb (fun hbt=> ?_) (fun hbf=> ?_)
    ·subst hbt;exact ih m (by omega) _ _ _ _ _ _ _ h
    ·subst hbf;exact ih m (by omega) _ _ _ _ _ _ _ h
   ·exact h.elim
  | block id c=>
   simp only at h
   split at h
   ·rename_i W c' hW
    obtain ⟨rfl,h⟩:=h
    exact hL _ _ _ hW rd ro σ T D K h
   ·exact VWx.block (ih m (by omega) _ _ _ _ _ _ _ h)
  | scope c=>exact VWx.scope (ih m (by omega) _ _ _ _ _ _ _ h)
  | loop c=>
   refine VWx.loop (fun k σ T D=>k≤m+1∧vx P G C F k L rd ro (.loop c) σ T D K) (m+1) ⟨Nat.le_refl _,by unfold vx;exact h⟩ ?_
   rintro k σ T D ⟨hk,h⟩
   cases k with
   | zero=>simp only [vx] at h;exact h.elim
   | succ j=>
    unfold vx at h
    refine (ih j (by omega) _ _ _ _ _ _ _ h).mono fun e σ T D hq=> ?_
    cases e<;>first
     | exact ⟨j,by omega,by omega,hq⟩
     | exact hq
  | region id ops d=>
   simp only at h
   split at h
   ·rename_i W c' hW
    obtain ⟨rfl,h⟩:=h
    exact hL _ _ _ hW rd ro σ T D K h
   ·cases d with
    | false=>exact vN (Q:=K) hcal hrnd h
    | true=>exact zA (Q:=K) hcal hrnd hm h
  | rangeFunc f ps a b=>
   simp only at h
   split at h
   ·rename_i fi first ca hf
    cases rd with
    | none=>
     obtain ⟨fn,h1,h2,h3,h4⟩:=hcal _ _ _ _ _ h
     exact VWx.range0 hf h1 h2 h3 h4
    | some i0=>
     simp only at h
     split at h
     ·rename_i hlp
      obtain ⟨fn,h1,h2,h3,h4⟩:=hcal _ _ _ _ _ h
      exact VWx.range1 hf hlp h1 h2 h3 h4
     ·exact h.elim
   ·exact h.elim
  | label l=>exact VWx.here (e:= .normal) h fun F a w R hr=>wpIn_label hr
  | goto l=>exact h.elim
  | refuse why=>exact h.elim
theorem xC {C:FuncId→Option aO} (hm:P.follows .mixedOrders=true) (hB:gj P=true) (hC:aZ P G C) {F:fS} {n:Nat} {L:Nat→Option (bP × Code)} (hL:gO P G L) {ro:Nat} {f:FuncId} {xs:List TV} {T:VT} {K:TV→VT→Prop}
  (h:an P G C F n L ro f xs T K):VCx P G ro f xs T K:=by
 unfold an at h
 split at h
 ·rename_i fn hf
  split at h
  ·rename_i c hc
   exact VCx.enter hf hc (q9 hm hB hC n n (Nat.le_refl _) _ _ hL _ _ _ _ _ _ _ h)
  ·exact h.elim
 ·exact h.elim
theorem ai:aZ P G fun _=>none:=fun _ _ h=>by cases h
end
end
section
open Go.RowKit

section
variable {P:Program} {G:ax}
def cV (id:Nat):Code→Option Code
 | .block i c=>bif Nat.beq i id then some (.block i c) else cV id c
 | .seq a b=>match cV id a with
  | some c=>some c
  | none=>cV id b
 | .cond _ a b=>match cV id a with
  | some c=>some c
  | none=>cV id b
 | .loop c=>cV id c
 | .scope c=>cV id c
 | .rangeFunc _ _ a b=>match cV id a with
  | some c=>some c
  | none=>cV id b
 | _=>none
def C6 (P:Program) (f:FuncId):Code:=match P.funcs[f]? with
 | some fn=>fn.body.getD .skip
 | none=> .skip
def ar (P:Program) (f:FuncId) (id:Nat):Code:=(cV id (C6 P f)).getD .skip
def oN:Code→Code
 | .block _ (.loop c)=>c
 | _=> .skip
def cp (P:Program) (f:FuncId) (id:Nat):Code:=oN (ar P f id)
def eU (id:Nat):Code→Bool
 | .block i (.loop _)=>Nat.beq i id
 | _=>false
theorem pJ {id:Nat} {c:Code} (h:eU id c=true):c= .block id (.loop (oN c)):=by
 unfold eU at h
 split at h
 ·rw [Nat.eq_of_beq_eq_true h];rfl
 ·cases h

def LEs:List TV→List (Option TV)→Prop
 | [], []=>True
 | _::l,none::m=>LEs l m
 | x::l,some y::m=>x=y∧LEs l m
 | _,_=>False
def gB (m:List (Option TV)):List TV:=m.map fun o=>o.getD .dead
theorem LEs.ok {g:Gh} {w:World}:∀{σ:List TV} {m:List (Option TV)} {us:List Value},LEs σ m→VRs g w σ us→VRs g w (gB m) us
 | [], [],us,_,h=>h
 | x::l,none::m,us,k,h=>by
  match us,h with
  | [],h=>have:=h.1;simp at this
  | u::us,h=>
   have h1:VRs g w l us:=⟨by have:=h.1;simpa using this,fun j y v hy hv=>h.2 (j+1) y v (by simpa using hy) (by simpa using hv)⟩
   exact VRs.cons (.dead u) (LEs.ok (show LEs l m from k) h1)
 | x::l,some y::m,us,k,h=>by
  obtain ⟨rfl,k⟩:=k
  match us,h with
  | [],h=>have:=h.1;simp at this
  | u::us,h=>
   have h1:VRs g w l us:=⟨by have:=h.1;simpa using this,fun j y v hy hv=>h.2 (j+1) y v (by simpa using hy) (by simpa using hv)⟩
   exact VRs.cons (h.2 0 x u rfl rfl) (LEs.ok k h1)
 | [],_::_,_,k,_=>k.elim
 | x::l, [],_,k,_=>k.elim
theorem VWx.sub {rd:Option Nat} {ro:Nat} {c:Code} {σ σ' :List TV} {T:VT} {D:List Nat} {Q:KX} (h:VWx P G rd ro c σ' T D Q) (hs:∀g w us,VRs g w σ us→VRs g w σ' us):VWx P G rd ro c σ T D Q:=
 fun r g w a rw0 hG hσ=>h r g w a rw0 hG (hs _ _ _ hσ)

def xD {ι:Type} (μ:ι→Nat) (sl:ι→List (Option TV)) (tt:ι→VT) (Inv:ι→Prop) (N M:Nat) (s:ι) (σ:List TV) (T:VT):Prop:=
 ∃s',Inv s' ∧μ s' <μ s∧((T=tt s' ∧LEs σ (sl s'))∨(T.keep N M=tt s' ∧LEs (av (au N) (au M) σ) (sl s')))
theorem VWx.loopS {ι:Type} {rd:Option Nat} {c:Code} {D:List Nat} {Q:KX} (μ:ι→Nat) (sl:ι→List (Option TV)) (tt:ι→VT) (Inv:ι→Prop) (N M:Nat) (hN:∀s,Inv s→(tt s).objs.length≤N∧(tt s).tails.length≤M) (hD:∀id∈D,id<N)
    (hbody:∀s,Inv s→VWx P G rd 0 c (gB (sl s)) (tt s) D (kJ (fun σ T D' =>D' =D∧xD μ sl tt Inv N M s σ T) Q)):
    ∀s,Inv s→VWx P G rd 0 (.loop c) (gB (sl s)) (tt s) D Q:=by
  intro s0 hs0
  refine VWx.loop (fun n σ T D' =>∃s,Inv s∧μ s=n∧σ=gB (sl s)∧T=tt s∧D' =D) (μ s0) ⟨s0,hs0,rfl,rfl,rfl,rfl⟩ ?_
  rintro n σ T D' ⟨s,hs,rfl,rfl,rfl,rfl⟩
  intro r g w a rw0 hG hσ hd hDs hrd
  refine wpIn_mono (hbody s hs r g w a rw0 hG hσ hd hDs hrd) ?_
  rintro e a' w' ⟨g',σ',T',D'',hq,e',r',hσ',hd',hDs',hx⟩
  cases e<;>first
    | exact ⟨g',σ',T',D'',hq,e',r',hσ',hd',hDs',hx⟩
    | (obtain ⟨rfl,s',hs',hlt,⟨rfl,hle⟩ | ⟨hT,hle⟩⟩:=hq
       · exact ⟨g',_,_,_,⟨_,hlt,s',hs',rfl,rfl,rfl,rfl⟩,e',r',hle.ok hσ',hd',hDs',hx⟩
       · have hdk:∀id∈D'',(g'.keep N M).obj id=g'.obj id:=fun id hid=>by simp [Gh.keep,hD id hid]
         refine ⟨g'.keep N M,_,tt s',D'',⟨_,hlt,s',hs',rfl,rfl,rfl,rfl⟩,e'.keep rw0 (hN s hs).1 (hN s hs).2,hT▸r'.keep N M,hle.ok (hσ'.ren (nA g' N M)), ?_, ?_, ?_⟩
         · rw [hd']
           apply List.map_congr_left
           intro id hid
           simp only [mk,hdk id hid]
         · intro id hid
           rw [hdk id hid];exact hDs' id hid
         · refine ⟨?_,fun i hi=>absurd hi (Nat.not_lt_zero i),fun i o b hi=>absurd hi (Nat.not_lt_zero i)⟩
           rw [←hT]
           simp only [VT.keep,List.length_map,List.length_take]
           have h1:=hx.len
           have h2:=(hN s hs).1
           omega)
theorem VWx.blockS {ι:Type} {rd:Option Nat} {f:FuncId} {id:Nat} {D:List Nat} {Q:KX} (hc:eU id (ar P f id)=true) (μ:ι→Nat) (sl:ι→List (Option TV)) (tt:ι→VT) (Inv:ι→Prop) (N M:Nat) (hN:∀s,Inv s→(tt s).objs.length≤N∧(tt s).tails.length≤M) (hD:∀id∈D,id<N)
  (hbody:∀s,Inv s→VWx P G rd 0 (cp P f id) (gB (sl s)) (tt s) D (kJ (fun σ T D' =>D' =D∧xD μ sl tt Inv N M s σ T) (lK id Q))):
  ∀s,Inv s→VWx P G rd 0 (ar P f id) (gB (sl s)) (tt s) D Q:=by
 intro s hs
 rw [pJ hc]
 exact VWx.block (VWx.loopS μ sl tt Inv N M hN hD hbody s hs)
def gZ (G:ax):Prop:=∀n cs,G n=some cs→∃vs:List Value,cs=vs.map .val
theorem GOk.sub {g g' :Gh} {w:World} {f h:Nat→Option Nat} (hv:gZ G) (k:GOk G g w) (r:lu g g' f h):GOk G g' w:=fun n cs hn=>by
 obtain ⟨vs,rfl⟩:=hv n cs hn
 have h1:=(k n _ hn).ren r
 simp only [TV.ren,lr] at h1
 exact h1
theorem VCx.lift {ro:Nat} {f:FuncId} {xs ys:List TV} {T:VT} {Q:TV→VT→Prop} (is ks:List Nat) (hv:gZ G) (hi:is.Nodup) (hk:ks.Nodup) (hil:∀i∈is,∃o,T.objs[i]?=some o∧o.live=true) (hkl:∀k∈ks,k<T.tails.length) (hro:∀i∈is,ro≤i)
  (hx:av (aP is) (aP ks) ys=xs) (h:VCx P G 0 f xs (T.give is ks) Q) (hlen:∀x T',Q x T' →is.length≤T'.objs.length∧ks.length≤T'.tails.length):
  VCx P G ro f ys T fun y T'' =>∃x T',Q x T' ∧y=x.ren (aI T.objs.length is) (aI T.tails.length ks)∧T'' =T.back is ks T' :=by
 intro g w us rw0 hG hxs
 have hargs:=hxs.ren (mz g T is ks)
 rw [hx] at hargs
 have hil' :∀i∈is,i<T.objs.length:=fun i h=>by obtain ⟨o,h1,_⟩:=hil i h;exact (List.getElem?_eq_some_iff.1 h1).1
 have r1:=rw0.give hi hk hil' hkl
 refine Calls.mono (h _ w _ r1 (hG.sub hv (mz g T is ks)) hargs) ?_
 rintro e w' ⟨v,x,gc,T',rfl,hq,e',r',hv',_⟩
 obtain ⟨l1,l2⟩:=hlen x T' hq
 obtain ⟨g',ev,rb,rn⟩:=qf rw0 hi hk hil hkl e' r' l1 l2
 obtain ⟨b1,b2,b3,b4⟩:=gv is T.objs (T'.objs.map (VO.ren (aI T.objs.length is) (aI T.tails.length ks))) hi hil' (by simpa using l1)
 refine ⟨v,_,g',_,rfl,⟨x,T',hq,rfl,rfl⟩,ev,rb,hv'.ren rn, ?_, ?_, ?_⟩
 ·show T.objs.length≤(bK T.objs is _).length
  rw [b1];omega
 ·intro i hir hil2
  exact b2 i hil2 fun hm=>absurd (hro i hm) (by omega)
 ·intro i o b hir ho hl hb
  have hnm:i∉is:=fun hm=>absurd (hro i hm) (by omega)
  exact e'.frb b (.inr (.inl ⟨i,o,ho,hl,hnm,hb⟩))
theorem VCx.liftPure {ro:Nat} {f:FuncId} {xs ys:List TV} {T:VT} {y:TV} {K:TV→VT→Prop} (hv:gZ G) (h:VCx P G 0 f xs ⟨[], []⟩ fun x T' =>x=y∧T' =⟨[], []⟩) (hx:av (aP []) (aP []) ys=xs) (hy:∀f h,y.ren f h=y) (k:K y T):VCx P G ro f ys T K:=by
 refine (VCx.lift (T:=T) [] [] hv List.nodup_nil List.nodup_nil (by simp) (by simp) (by simp) hx (by rw [VT.give_nil];exact h) (fun _ _ _=>⟨Nat.zero_le _,Nat.zero_le _⟩)).mono ?_
 rintro z T' ⟨x,T'',⟨rfl,rfl⟩,rfl,rfl⟩
 have hb:T.back [] [] ⟨[], []⟩=T:=by rw [VT.back_nil];cases T;simp
 rw [hy,hb];exact k
def aw:List (FuncId × aO)→FuncId→Option aO
 | [],_=>none
 | (f,W)::l,g=>bif Nat.beq f g then some W else aw l g
theorem az:∀{l:List (FuncId × aO)},(∀p∈l,∀ro xs T K,p.2 ro xs T K→VCx P G ro p.1 xs T K)→aZ P G (aw l)
 | [],_=>fun _ _ h=>by cases h
 | (f,W)::l,h=>fun g W' hW=>by
  simp only [aw] at hW
  cases hb:Nat.beq f g with
  | true=>
   rw [hb] at hW
   injection hW with hW;subst hW
   have:=Nat.eq_of_beq_eq_true hb
   subst this
   exact h _ List.mem_cons_self
  | false=>
   rw [hb] at hW
   exact az (fun p hp=>h p (List.mem_cons_of_mem _ hp)) g W' hW
theorem bq {b:Bool} {X Y:Prop} (ht:b=true→X) (hf:b=false→Y):cond b X Y:=by
 cases b
 ·exact hf rfl
 ·exact ht rfl
theorem VCx.keepQ {f:FuncId} {xs:List TV} {T:VT} {Q:TV→VT→Prop} (n m:Nat) (hn:T.objs.length≤n) (hm:T.tails.length≤m) (h:VCx P G 0 f xs T fun x T' =>Q (x.ren (au n) (au m)) (T'.keep n m)):VCx P G 0 f xs T Q:=by
 intro g w us rw0 hG hx
 refine Calls.mono (h g w us rw0 hG hx) ?_
 rintro e w' ⟨v,x,g',T',he,hq,e',r',hv,hfx⟩
 refine ⟨v,_,g'.keep n m,T'.keep n m,he,hq,e'.keep rw0 hn hm,r'.keep n m,hv.ren (nA g' n m), ?_,fun i hi=>absurd hi (Nat.not_lt_zero i),fun i o b hi=>absurd hi (Nat.not_lt_zero i)⟩
 simp only [VT.keep,List.length_map,List.length_take]
 have h1:=hfx.len
 omega
end
end
section
open Go.RowKit

section
variable {P:Program}

def BD:TV→Bool
 | .val _ | .ptr .. | .sl .. | .map _ | .dead=>true
 | _=>false
def mN (x:TV):TV:=if BD x then x else .dead
def sg (size k e:Nat) (n:Nat) (es' :List (List TV)) (σ:List TV):List TV:=σ.map fun x=>match x with
 | .vec s es (.tail k' e')=>if s=size∧k' =k∧e' =e∧es.length=n then .vec size es' .none else .dead
 | x=>mN x
theorem qy {g:Gh} {w:World}:∀{xs:List TV} {us us' :List Value},xs.map bM=us.map some→VRs g w xs us' →us' =us
 | [], [],us',_,k=>List.eq_nil_of_length_eq_zero k.1
 | [],_::_,_,h,_=>by simp at h
 | _::_, [],_,h,_=>by simp at h
 | x::xs,u::us,us',h,k=>by
  simp only [List.map_cons,List.cons.injEq] at h
  cases us' with
  | nil=>have:=k.1;simp at this
  | cons u' us' =>
   have h1:=bE h.1 (k.2 0 x u' rfl rfl)
   have h2:=qy (us' :=us') h.2 ⟨by have:=k.1;simpa using this,fun j x u hx hu=>k.2 (j+1) x u (by simpa using hx) (by simpa using hu)⟩
   rw [h1,h2]
end
end
section
open Go.ChangeShapes Go.WideShapes Go.ChangeAt Go.RowKit Go.Joins Go.Deep

def nK (w:World):Gh:=⟨fun _=>none,fun b o=>(w.cell? ⟨b,o,none⟩).isSome=true,fun b=>b<w.heap.size,fun _=>none⟩
theorem C7 (w:World):RW (nK w) ⟨[], []⟩ w:=by
 refine ⟨(fun id o h=>by simp at h),(fun i j oi oj b h=>by simp at h),(fun _ _=>rfl),(fun _ _ h=>h),(fun _ h=>h),(fun k p h=>by simp at h),(fun _ _=>rfl),(fun i j x y b h=>nomatch h),(fun i oi b k x h=>by simp at h),(fun k x h=>nomatch h),(fun k x h=>nomatch h),(fun k x h=>nomatch h)⟩
section
variable {H:Type} {enc:TypeId × Value→H} {P:Program} {w:World} {base:Nat} {spare:Nat→Bool} {held:Bool}
end
end
section
open Go.ChangeShapes Go.WideShapes Go.ChangeAt Go.RowKit Go.Joins Go.Deep

def pK (x:TV) (_:VT):Prop:=match x with
 | .val (.bool b)=>cond b True False
 | _=>False
theorem VCx.top {P:Program} {ro:Nat} {f:FuncId} {xs:List TV} {us:List Value} (h:VCx P (fun _=>none) ro f xs ⟨[], []⟩ pK) (w:World) (hx:VRs (nK w) w xs us):
  Calls P f us.toArray w fun e w' =>e= .returned (.bool true)∧Gr w w' :=by
 refine (h (nK w) w us (C7 w) (fun _ _ h=>nomatch h) hx).mono ?_
 rintro e w' ⟨u,x,g',T',rfl,hq,ev,_,hv,_⟩
 unfold pK at hq
 split at hq
 ·rename_i b
  cases b with
  | false=>exact hq.elim
  | true=>
   rw [hv.val_inv]
   exact ⟨rfl,ev.os,ev.tape,ev.output,ev.size,fun b hb=>ev.frb b hb⟩
 ·exact hq.elim

section
variable {H:Type} {enc:TypeId × Value→H} {P:Program} {w:World} {base:Nat} {spare:Nat→Bool} {held:Bool}
def jY (P:Program) (f:TypeId→Option (List TypeId)):Nat→List Field→Option (List TypeId)
 | _, []=>some []
 | off,fd::r=>match f fd.type with
  | some ls=>bif Nat.beq fd.offset off&&Nat.beq (P.cellsOf fd.type) ls.length then (jY P f (off+ls.length) r).map (ls++ ·) else none
  | none=>none
def jZ (P:Program):Nat→TypeId→Option (List TypeId)
 | 0,_=>none
 | n+1,t=>match P.underlying t with
  | some (.struct fs)=>jY P (jZ P n) 0 fs.toList
  | some (.array ..)=>none
  | _=>some [t]
theorem oO {f:TypeId→Option (List TypeId)} {m:Nat} {cs:List Value}
  (hf:∀t ts sub x,f t=some ts→sub.length=ts.length→DataW.trod enc P w base spare held m t sub=some x→∀(j:Nat) t',ts[j]?=some t' →∃u m' y,sub[j]?=some u∧DataW.trod enc P w base spare held m' t' [u]=some y):
  ∀(l:List Field) (off:Nat) (ts:List TypeId),jY P f off l=some ts→cs.length=off+ts.length→(∀fd∈l,∃y,DataW.trod enc P w base spare held m fd.type ((cs.drop fd.offset).take (P.cellsOf fd.type))=some y)→
   ∀(j:Nat) t',ts[j]?=some t' →∃u m' y,cs[off+j]?=some u∧DataW.trod enc P w base spare held m' t' [u]=some y
 | [],off,ts,h,hl,hy,j,t',hj=>by
  simp only [jY] at h
  injection h with h;subst h
  simp at hj
 | fd::l,off,ts,h,hl,hy,j,t',hj=>by
  simp only [jY] at h
  split at h
  ·rename_i ls hls
   cases hb:(Nat.beq fd.offset off&&Nat.beq (P.cellsOf fd.type) ls.length) with
   | false=>rw [hb] at h;cases h
   | true=>
    rw [hb] at h
    simp only [Bool.and_eq_true] at hb
    have h1:=Nat.eq_of_beq_eq_true hb.1
    have h2:=Nat.eq_of_beq_eq_true hb.2
    simp only [cond_true,Option.map_eq_some_iff] at h
    obtain ⟨ts',h3,rfl⟩:=h
    rw [List.length_append] at hl
    rcases Nat.lt_or_ge j ls.length with hj' | hj'
    ·rw [List.getElem?_append_left hj'] at hj
     obtain ⟨y,hy⟩:=hy fd (by simp)
     rw [h1,h2] at hy
     obtain ⟨u,m',y',k1,k2⟩:=hf _ _ _ _ hls (by rw [List.length_take,List.length_drop];omega) hy j t' hj
     refine ⟨u,m',y', ?_,k2⟩
     rw [List.getElem?_take,if_pos hj',List.getElem?_drop] at k1
     exact k1
    ·rw [List.getElem?_append_right hj'] at hj
     obtain ⟨u,m',y',k1,k2⟩:=oO hf l (off+ls.length) ts' h3 (by omega) (fun fd' h=>hy fd' (by simp [h])) (j-ls.length) t' hj
     refine ⟨u,m',y', ?_,k2⟩
     rw [←k1]
     congr 1
     omega
  ·cases h
theorem qz:∀(n:Nat) (m:Nat) (t:TypeId) (ts:List TypeId) (cs:List Value) (x:DataW H × List MemPlace),jZ P n t=some ts→cs.length=ts.length→DataW.trod enc P w base spare held m t cs=some x→
    ∀(j:Nat) t',ts[j]?=some t' →∃u m' y,cs[j]?=some u∧DataW.trod enc P w base spare held m' t' [u]=some y
  | 0,_,_,_,_,_,h,_,_=>by simp only [jZ] at h;cases h
  | n+1,m,t,ts,cs,x,h,hl,ht=>by
    simp only [jZ] at h
    split at h
    · rename_i fs hs
      obtain ⟨xs,m',_,_,_,hlen,hg⟩:=DataW.trod_struct hs ht
      intro j t' hj
      have:=oO (P:=P) (enc:=enc) (w:=w) (base:=base) (spare:=spare) (held:=held) (m:=m') (cs:=cs) (fun t ts sub x h1 h2 h3=>qz n m' t ts sub x h1 h2 h3) fs.toList 0 ts h (by omega) ?_ j t' hj
      · simpa using this
      · intro fd hfd
        obtain ⟨i,hi,rfl⟩:=List.mem_iff_getElem.1 hfd
        have hi' :i<fs.size:=by simpa using hi
        have h1:=hg i fs[i] (Array.getElem?_eq_getElem hi')
        have hx:i<xs.length:=by omega
        exact ⟨xs[i],by simpa [List.getElem?_eq_getElem hx] using h1⟩
    · cases h
    · injection h with h;subst h
      intro j t' hj
      match cs,hl with
      | [u],_=>
        have:j=0:=by
          rcases j with _ | j
          · rfl
          · simp at hj
        subst this
        simp at hj;subst hj
        exact ⟨u,m,x,rfl,ht⟩
theorem zB {m ty:Nat} {u:Value} {y:DataW H × List MemPlace} {k:IntKind} (hk:P.underlying ty=some (.int k)) (h:DataW.trod enc P w base spare held m ty [u]=some y):∃n,u= .int k n∧(Lit.int k n).wf=true:=by
 obtain ⟨n,e0,_,wn⟩:=DataW.trod_int hk h
 injection e0 with e0
 exact ⟨n,e0,wn⟩
end
end
section
open Go.RowKit

section
variable {P:Program} {G:ax}
def mO:List Nat→List TV→Nat→Option TV
 | k::ks,v::vs,i=>bif Nat.beq k i then some v else mO ks vs i
 | _,_,_=>none
def eV (n:Nat) (keys:List Nat) (vs:List TV):List (Option TV):=(List.range n).map (mO keys vs)
def aq (n:Nat) (keys:List Nat) (vs:List TV):List TV:=gB (eV n keys vs)
def pick (keys:List Nat) (σ:List TV):List TV:=keys.map fun t=>σ.getD t .dead
theorem oP (σ:List TV):∀(keys:List Nat) (i:Nat) (x:TV),mO keys (pick keys σ) i=some x→x=σ.getD i .dead
 | [],_,_,h=>by simp [mO,pick] at h
 | k::ks,i,x,h=>by
  simp only [pick,List.map_cons,mO] at h
  cases hb:Nat.beq k i with
  | true=>
   rw [hb] at h
   have:=Nat.eq_of_beq_eq_true hb
   subst this
   injection h with h;exact h.symm
  | false=>rw [hb] at h;exact oP σ ks i x h
theorem si:∀(σ:List TV) (m:List (Option TV)),m.length=σ.length→(∀(i:Nat) x,m[i]?=some (some x)→x=σ.getD i .dead)→LEs σ m
 | [], [],_,_=>trivial
 | [],_::_,h,_=>by simp at h
 | _::_, [],h,_=>by simp at h
 | x::l,none::m,h,k=>si l m (by simpa using h) fun i y hy=>by simpa using k (i+1) y (by simpa using hy)
 | x::l,some y::m,h,k=>⟨by simpa using (k 0 y rfl).symm,si l m (by simpa using h) fun i y hy=>by simpa using k (i+1) y (by simpa using hy)⟩
theorem iD (σ:List TV) (keys:List Nat):LEs σ (eV σ.length keys (pick keys σ)):=by
 refine si _ _ (by simp [eV]) fun i x hx=> ?_
 simp only [eV,List.getElem?_map,Option.map_eq_some_iff] at hx
 obtain ⟨j,hj,hx⟩:=hx
 have e:j=i:=by
  have:=(List.getElem?_eq_some_iff.1 hj).2
  simpa using this.symm
 subst e
 exact oP σ keys j x hx
theorem zC (f h:Nat→Option Nat) (keys:List Nat) (σ:List TV):pick keys (av f h σ)=av f h (pick keys σ):=by
 simp only [pick,dJ,List.map_map]
 refine List.map_congr_left fun t _=> ?_
 simp only [Function.comp_apply,List.getD_eq_getElem?_getD,List.getElem?_map]
 cases σ[t]?<;>simp [TV.ren]
def cQ (keys:List Nat) (Q:Exit→List TV→VT→List Nat→Nat→Prop):KX:=fun e σ T D=>Q e (pick keys σ) T D σ.length
theorem VWx.forget {rd:Option Nat} {ro:Nat} {c:Code} {σ:List TV} {T:VT} {n:Nat} {keys:List Nat} {K:KX} {Q:Exit→List TV→VT→Prop} (h:VWx P G rd ro c σ T [] (cQ keys fun e vs T D m=>D= []∧m=n∧Q e vs T))
  (k:∀e vs T,Q e vs T→K e (aq n keys vs) T []):VWx P G rd ro c σ T [] K:=by
 intro r g w a rw0 hG hσ hd hD hr
 refine wpIn_mono (h r g w a rw0 hG hσ hd hD hr) ?_
 rintro e a' w' ⟨g',σ',T',D',⟨rfl,rfl,hq⟩,e',r',hσ',h⟩
 exact ⟨g',_,T', [],k _ _ _ hq,e',r',(iD σ' keys).ok hσ',h⟩

def oQ {ι:Type} (n id:Nat) (μ:ι→Nat) (sl:ι→List TV) (tt:ι→VT) (Inv:ι→Prop) (N M:Nat) (s:ι) (Post:Exit→List TV→VT→Prop):Exit→List TV→VT→List Nat→Nat→Prop:=fun e vs T D m=>D= []∧m=n∧match e with
 | .normal=>∃s',Inv s' ∧μ s' <μ s∧((T=tt s' ∧vs=sl s')∨(T.keep N M=tt s' ∧av (au N) (au M) vs=sl s'))
 | .exit i=>cond (Nat.beq i id) (Post .normal vs T) (Post (.exit i) vs T)
 | e=>Post e vs T
theorem di {ι:Type} {f:FuncId} {id:Nat} (hc:eU id (ar P f id)=true) (n:Nat) (keys:List Nat) (μ:ι→Nat) (sl:ι→List TV) (tt:ι→VT) (Inv:ι→Prop) (N M:Nat) (hN:∀s,Inv s→(tt s).objs.length≤N∧(tt s).tails.length≤M) (Post:Exit→List TV→VT→Prop)
  (hbody:∀s,Inv s→VWx P G none 0 (cp P f id) (aq n keys (sl s)) (tt s) [] (cQ keys (oQ n id μ sl tt Inv N M s Post))):
  ∀s,Inv s→∀K:KX,(∀e vs T,Post e vs T→K e (aq n keys vs) T [])→VWx P G none 0 (ar P f id) (aq n keys (sl s)) (tt s) [] K:=by
 intro s hs K hK
 refine VWx.forget (n:=n) (keys:=keys) (Q:=Post) ?_ hK
 refine VWx.blockS hc μ (fun s=>eV n keys (sl s)) tt Inv N M hN (by simp) (fun s hs=>(hbody s hs).mono fun e σ T D hq=> ?_) s hs
 obtain ⟨rfl,hm,hq⟩:=hq
 cases e
 case normal=>
  refine ⟨rfl, ?_⟩
  obtain ⟨s',h1,h2,h3⟩:=hq
  refine ⟨s',h1,h2, ?_⟩
  rcases h3 with ⟨h3,h4⟩ | ⟨h3,h4⟩
  ·left;refine ⟨h3, ?_⟩
   show LEs σ (eV n keys (sl s'))
   rw [←h4,←hm];exact iD σ keys
  ·right;refine ⟨h3, ?_⟩
   show LEs _ (eV n keys (sl s'))
   rw [←h4,←zC,←hm]
   have:=iD (av (au N) (au M) σ) keys
   rwa [show (av (au N) (au M) σ).length=σ.length by rw [dJ];simp] at this
 case exit i=>
  simp only [kJ,lK]
  simp only at hq
  cases hb:Nat.beq i id<;>rw [hb] at hq
  ·exact ⟨rfl,hm,hq⟩
  ·exact ⟨rfl,hm,hq⟩
 all_goals exact ⟨rfl,hm,hq⟩
theorem VWx.adopt {rd:Option Nat} {ro:Nat} {c:Code} {σ:List TV} {T:VT} {D:List Nat} {Q:KX} (d size:Nat) (hd:σ[d]?=some (.val (.slice none 0 0)))
  (h:VWx P G rd ro c (σ.set d (.vec size [] (.tail T.tails.length 0))) {T with tails:=T.tails++ [(0,size,true)]} D Q):VWx P G rd ro c σ T D Q:=by
 intro r g w a rw0 hG hσ hdf hDs hrd
 obtain ⟨g1,e1,r1,ht⟩:=rw0.newTail size true
 obtain ⟨u,hu,hv⟩:=hσ.at hd
 have hv' :=hv.val_inv
 subst hv'
 have h2:=(hσ.mono e1).set d (x:= .vec size [] (.tail T.tails.length 0)) (u:= .slice none 0 0) (.nil ⟨_,ht,Nat.le_refl _,rfl⟩)
 have h3:a.tmps.toList.set d (.slice none 0 0)=a.tmps.toList:=by
  apply List.ext_getElem?
  intro j
  rw [List.getElem?_set]
  split
  ·rename_i hj;subst hj;rw [hu,if_pos (List.getElem?_eq_some_iff.1 hu).1]
  ·rfl
 rw [h3] at h2
 refine wpIn_mono (h r g1 w a r1 (hG.mono e1) h2 (hdf.trans (iv e1 hDs).symm) (dK e1 hDs) (rN e1 hrd)) ?_
 rintro e a' w' ⟨g',σ',T',D',hq,e2,r',hσ',hd',hD',hx⟩
 exact ⟨g',σ',T',D',hq,e1.trans e2,r',hσ',hd',hD',⟨hx.len,fun i hi hl=>hx.same i hi hl,fun i o b hi ho hl hb=>hx.heap i o b hi ho hl (e1.obj i b hb)⟩⟩
def b6:List (Nat × Nat)→List TV→VT→List TV × VT
 | [],σ,T=>(σ,T)
 | p::l,σ,T=>b6 l (σ.set p.1 (.vec p.2 [] (.tail T.tails.length 0))) {T with tails:=T.tails++ [(0,p.2,true)]}
def j3:List (Nat × Nat)→List TV→Prop
 | [],_=>True
 | p::l,σ=>σ[p.1]?=some (.val (.slice none 0 0))∧j3 l (σ.set p.1 .dead)
def dw (n:Nat) (keys:List Nat) (ad:List (Nat × Nat)) (vs0:List TV) (T0:VT) (R:KX→Prop):bP:=fun rd ro σ T D K=>(rd=none∧ro=0∧D= []∧j3 ad σ∧(b6 ad σ T).2=T0∧Nat.beq σ.length n=true∧pick keys (b6 ad σ T).1=vs0)∧R K
theorem lT {rd:Option Nat} {ro:Nat} {c:Code} {D:List Nat} {Q:KX}:∀(ad:List (Nat × Nat)) (σ σ' :List TV) (T:VT),j3 ad σ' →(∀(i:Nat),σ'[i]?=some (.val (.slice none 0 0))→σ[i]?=some (.val (.slice none 0 0)))→σ.length=σ'.length→
  VWx P G rd ro c (b6 ad σ T).1 (b6 ad σ T).2 D Q→VWx P G rd ro c σ T D Q
 | [],_,_,_,_,_,_,h=>h
 | p::l,σ,σ',T,ho,hs,hl,h=>by
  obtain ⟨h1,h2⟩:=ho
  refine VWx.adopt p.1 p.2 (hs _ h1) (lT l _ (σ'.set p.1 .dead) _ h2 (fun i hi=> ?_) (by simpa using hl) h)
  rw [List.getElem?_set] at hi ⊢
  split
  ·rename_i e;subst e;rw [if_pos rfl] at hi;split at hi<;>simp at hi
  ·rename_i e;rw [if_neg e] at hi;exact hs i hi
theorem iE:∀(ad:List (Nat × Nat)) (σ:List TV) (T:VT),(b6 ad σ T).1.length=σ.length
 | [],_,_=>rfl
 | p::l,σ,T=>by rw [b6,iE l];simp
theorem bL {c:Code} {n:Nat} {keys:List Nat} {ad:List (Nat × Nat)} {vs0:List TV} {T0:VT} {R:KX→Prop} (h:∀K,R K→VWx P G none 0 c (aq n keys vs0) T0 [] K):
  ∀rd ro σ T D K,dw n keys ad vs0 T0 R rd ro σ T D K→VWx P G rd ro c σ T D K:=by
 rintro rd ro σ T D K ⟨⟨rfl,rfl,rfl,ha,rfl,hn,rfl⟩,hR⟩
 obtain rfl:=Nat.eq_of_beq_eq_true hn
 refine lT ad σ σ T ha (fun _ h=>h) rfl ((h K hR).sub fun g w us hu=> ?_)
 have:=(iD (b6 ad σ T).1 keys).ok hu
 rwa [iE] at this
def cB:List (Nat × bP × Code)→Nat→Option (bP × Code)
 | [],_=>none
 | (i,W,c)::l,j=>bif Nat.beq i j then some (W,c) else cB l j
theorem bw:∀{l:List (Nat × bP × Code)},(∀p∈l,∀rd ro σ T D K,p.2.1 rd ro σ T D K→VWx P G rd ro p.2.2 σ T D K)→gO P G (cB l)
 | [],_=>fun _ _ _ h=>by cases h
 | (i,W,c)::l,h=>fun j W' c' hW=>by
  simp only [cB] at hW
  cases hb:Nat.beq i j with
  | true=>
   rw [hb] at hW
   injection hW with hW;injection hW with h1 h2;subst h1 h2
   exact h _ List.mem_cons_self
  | false=>
   rw [hb] at hW
   exact bw (fun p hp=>h p (List.mem_cons_of_mem _ hp)) j W' c' hW

theorem VCx.ofCalls {f:FuncId} {xs:List TV} {y:TV} (hx:av (aP []) (aP []) xs=xs) (h:VCalls P f xs ⟨[], []⟩ fun x T' =>x=y∧T' =⟨[], []⟩) (hy:∀f h,y.ren f h=y):VCx P G 0 f xs ⟨[], []⟩ fun x T' =>x=y∧T' =⟨[], []⟩:=
 (VCx.of_pure (T:=⟨[], []⟩) h hx).mono fun x T' hq=>by
  obtain ⟨h1,h2⟩:=hq
  exact ⟨by rw [h1,hy],h2⟩

theorem bF {C:FuncId→Option aO} (hm:P.follows .mixedOrders=true) (hB:gj P=true) (hC:aZ P G C) {F:fS} {n:Nat} {L:Nat→Option (bP × Code)} (hL:gO P G L) {rd:Option Nat} {ro:Nat} {c:Code} {σ:List TV} {T:VT} {D:List Nat} {K:KX} {X:Prop}
  (h:vx P G C F n L rd ro c σ T D K=X) (hx:X):VWx P G rd ro c σ T D K:=q9 hm hB hC n n (Nat.le_refl _) F L hL _ _ _ _ _ _ _ (by rw [h];exact hx)
theorem ah {C:FuncId→Option aO} (hm:P.follows .mixedOrders=true) (hB:gj P=true) (hC:aZ P G C) {F:fS} {n:Nat} {L:Nat→Option (bP × Code)} (hL:gO P G L) {ro:Nat} {f:FuncId} {xs:List TV} {T:VT} {K:TV→VT→Prop} {X:Prop}
  (h:an P G C F n L ro f xs T K=X) (hx:X):VCx P G ro f xs T K:=xC hm hB hC hL (by rw [h];exact hx)

theorem vZ {t e:TypeId} {inf:TypeInfo} {es:List (List TV)} {tok:Tok} {k:IntKind} {z:Int} {cs:List TV} (ht:P.underlying t=some (.slice e)) (hi:P.info? e=some inf) (h0:0≤z) (he:es[z.toNat]?=some cs):
  dG P t (.vec inf.size es tok) (.val (.int k z))=some (.elt cs):=by
 simp [dG,ht,hi,h0,he]
theorem eW {t e:TypeId} {x i:Operand} {l:List (Nat × TV)} {inf:TypeInfo} {es:List (List TV)} {tok:Tok} {k:IntKind} {z:Int} {cs:List TV} (ht:P.underlying t=some (.slice e)) (hi:P.info? e=some inf)
  (hx:aN G l x= .vec inf.size es tok) (hz:aN G l i= .val (.int k z)) (h0:0≤z) (he:es[z.toNat]?=some cs):aU P G (.indexAddr t x i) l (.elt cs):=by
 refine ⟨?_⟩
 simp only [aS,hx,hz,mE,vZ ht hi h0 he]
end
end
section
open Go.RowKit

section
variable {P:Program} {G:ax}
def b9:TV→TV
 | .vec s es _=> .vec s es .none
 | x=>x
theorem fM {g:Gh} {w:World} {x:TV} {u:Value} (h:VR g w x u):VR g w (b9 x) u:=by
 cases x with
 | vec s es t=>
  rcases h.vec_inv with ⟨rfl,rfl,h1⟩ | ⟨b,o,c,us,rfl,f1,f2,f3,f4,f5,f6,f7,f8⟩ | ⟨a,rfl,rfl,_⟩
  rotate_left 2
  ·exact .odd a trivial
  ·exact .nil trivial
  ·exact .mk_vec rfl f1 f2 f3 trivial f5 f6 f7 f8
 | _=>exact h
def gk:List Nat→List TV→List TV
 | [],σ=>σ
 | t::l,σ=>gk l (σ.set t (b9 (σ.getD t .dead)))
theorem nf {g:Gh} {w:World}:∀(l:List Nat) {σ:List TV} {us:List Value},VRs g w σ us→VRs g w (gk l σ) us
 | [],_,_,h=>h
 | t::l,σ,us,h=>by
  refine nf l ⟨by simpa using h.1,fun j x u hx hu=> ?_⟩
  rw [List.getElem?_set] at hx
  split at hx
  ·rename_i e;subst e
   split at hx
   ·rename_i hl
    injection hx with hx;subst hx
    refine fM (h.2 t _ u ?_ hu)
    rw [List.getD_eq_getElem?_getD,List.getElem?_eq_getElem hl];rfl
   ·cases hx
  ·exact h.2 j x u hx hu
theorem lU:∀(l:List Nat) (σ:List TV),(gk l σ).length=σ.length
 | [],_=>rfl
 | t::l,σ=>by rw [gk,lU l];simp
def AQ (n:Nat) (keys:List Nat) (ad:List (Nat × Nat)) (lo:List Nat) (vs0:List TV) (T0:VT) (R:KX→Prop):bP:=fun rd ro σ T D K=>(rd=none∧ro=0∧D= []∧j3 ad σ∧(b6 ad σ T).2=T0∧Nat.beq σ.length n=true∧pick keys (gk lo (b6 ad σ T).1)=vs0)∧R K
theorem zD {c:Code} {n:Nat} {keys:List Nat} {ad:List (Nat × Nat)} {lo:List Nat} {vs0:List TV} {T0:VT} {R:KX→Prop} (h:∀K,R K→VWx P G none 0 c (aq n keys vs0) T0 [] K):
  ∀rd ro σ T D K,AQ n keys ad lo vs0 T0 R rd ro σ T D K→VWx P G rd ro c σ T D K:=by
 rintro rd ro σ T D K ⟨⟨rfl,rfl,rfl,ha,rfl,hn,rfl⟩,hR⟩
 obtain rfl:=Nat.eq_of_beq_eq_true hn
 refine lT ad σ σ T ha (fun _ h=>h) rfl ((h K hR).sub fun g w us hu=> ?_)
 have:=(iD (gk lo (b6 ad σ T).1) keys).ok (nf lo hu)
 rwa [lU,iE] at this

theorem sj {t e:TypeId} {x i:Operand} {l:List (Nat × TV)} {inf:TypeInfo} {es:List (List TV)} {tok:Tok} {k:IntKind} {z:Int} (ht:P.underlying t=some (.slice e)) (hi:P.info? e=some inf)
  (hx:aN G l x= .vec inf.size es tok) (hz:aN G l i= .val (.int k z)) (h0:0≤z) (he:z.toNat≤es.length):aU P G (.slice t x none (some i) none) l (.vec inf.size (es.take z.toNat) .none):=by
 refine ⟨?_⟩
 simp [aS,hx,hz,hZ,jL,jM,im,ht,hi,ec,dv,h0,he]
theorem zE {t e:TypeId} {x i:Operand} {l:List (Nat × TV)} {inf:TypeInfo} {es:List (List TV)} {tok:Tok} {k:IntKind} {z:Int} (ht:P.underlying t=some (.slice e)) (hi:P.info? e=some inf)
  (hx:aN G l x= .vec inf.size es tok) (hz:aN G l i= .val (.int k z)) (h0:0≤z) (he:z.toNat≤es.length):aU P G (.slice t x (some i) none none) l (.vec inf.size (es.drop z.toNat) tok):=by
 refine ⟨?_⟩
 simp [aS,hx,hz,hZ,jL,jM,im,ht,hi,ec,dv,h0,he]
theorem lV {ro:Nat} {T T1:VT} {t e tx:TypeId} {s x:Operand} {l:List (Nat × TV)} {inf:TypeInfo} {z:Value} {es es2:List (List TV)} {k n:Nat} {bn:Bool} (ht:P.underlying t=some (.slice e)) (hi:P.info? e=some inf) (hz:inf.zero=some z) (hzs:z.cells.size=inf.size) (hp:0<inf.size)
  (hsl:dI (P.underlying tx)=true) (hs:eR T inf.size (aN G l s)=some (es,k,n,bn,T1)) (hx:gu inf.size (aN G l x)=some es2) (hb:(es.length+es2.length)*(inf.bytes+1)≤140737488355328):
  aW P G ro T (.call ⟨.builtin .append, #[s,x], #[t,tx]⟩) l (.vec inf.size (es++es2) (.tail k (n+es2.length))) {T1 with tails:=T1.tails.set k (n+es2.length,inf.size,bn)}:=by
 refine .old rfl ?_
 have h1:dU P T t tx (aN G l s) (aN G l x)=some (.vec inf.size (es++es2) (.tail k (n+es2.length)),{T1 with tails:=T1.tails.set k (n+es2.length,inf.size,bn)}):=by
  simp [dU,ht,hi,hz,hs,hx,hzs,hp,hsl,hb]
 simp [oh,cP,gE,jK,h1]
end
end
section
open Go.RowKit

section
variable {P:Program} {G:ax}
theorem VRs.loose {g:Gh} {w:World} {xs:List TV} {us:List Value} (h:VRs g w xs us):VRs g w (xs.map b9) us:=by
 refine ⟨by simpa using h.1,fun j x u hx hu=> ?_⟩
 simp only [List.getElem?_map,Option.map_eq_some_iff] at hx
 obtain ⟨y,hy,rfl⟩:=hx
 exact fM (h.2 j y u hy hu)
theorem VCx.loose {ro:Nat} {f:FuncId} {xs:List TV} {T:VT} {Q:TV→VT→Prop} (h:VCx P G ro f (xs.map b9) T Q):VCx P G ro f xs T Q:=fun g w us r hG hx=>h g w us r hG hx.loose
theorem VCx.loosePure {ro:Nat} {f:FuncId} {xs ys:List TV} {T:VT} {y:TV} {K:TV→VT→Prop} (hv:gZ G) (h:VCx P G 0 f xs ⟨[], []⟩ fun x T' =>x=y∧T' =⟨[], []⟩) (hy:ys.map b9=xs) (hx:av (aP []) (aP []) xs=xs) (hr:∀f h,y.ren f h=y) (k:K y T):VCx P G ro f ys T K:=
 VCx.loose (VCx.liftPure hv h (by rw [hy];exact hx) hr k)
theorem VCx.looseAny {ro:Nat} {f:FuncId} {xs ys:List TV} {T:VT} {Y:TV→Prop} {K:TV→VT→Prop} (hv:gZ G) (h:VCx P G 0 f xs ⟨[], []⟩ fun x T' =>Y x∧T' =⟨[], []⟩) (hy:ys.map b9=xs) (hx:av (aP []) (aP []) xs=xs) (hr:∀y,Y y→∀f h,y.ren f h=y) (k:∀y,Y y→K y T):VCx P G ro f ys T K:=by
 refine VCx.loose ((VCx.lift (xs:=xs) (T:=T) [] [] hv List.nodup_nil List.nodup_nil (by simp) (by simp) (by simp) (by rw [hy];exact hx) (by rw [VT.give_nil];exact h) (fun _ _ _=>⟨Nat.zero_le _,Nat.zero_le _⟩)).mono ?_)
 rintro z T' ⟨x,T'',⟨hY,rfl⟩,rfl,rfl⟩
 have hb:T.back [] [] ⟨[], []⟩=T:=by rw [VT.back_nil];cases T;simp
 rw [hr x hY,hb];exact k x hY
theorem aX {b:Bool} {X Y:Prop} (h:b=false) (k:Y):cond b X Y:=by subst h;exact k
theorem bp {b:Bool} {X Y:Prop} (h:b=true) (k:X):cond b X Y:=by subst h;exact k
end
end
section
open Go.RowKit Go.Sort

section
variable {α:Type} [Inhabited α]
theorem BE (w:World) (os:Array Obj):Gr w (Sort.grow w os):=⟨rfl,rfl,rfl,by simp [Sort.grow],fun k hk=>by simp [Sort.grow,Array.getElem?_append,hk]⟩
end
end
section
open Go.RowKit Go.Sort

section
variable {α:Type}
theorem VRs.flatMap {g:Gh} {w:World} {encT:α→List TV} {enc:α→List Value}:∀{l:List α},(∀x∈l,VRs g w (encT x) (enc x))→VRs g w (l.flatMap encT) (l.flatMap enc)
 | [],_=>VRs.nil _ _
 | a::l,h=>by
  rw [List.flatMap_cons,List.flatMap_cons]
  exact VRs.app (h a List.mem_cons_self) (VRs.flatMap fun x hx=>h x (List.mem_cons_of_mem _ hx))
theorem lW (encT:α→List TV) (k:Nat) (hk:∀x,(encT x).length=k) (l:List α):(l.flatMap encT).length=l.length*k:=by
 induction l with
 | nil=>simp
 | cons x r ih=>rw [List.flatMap_cons,List.length_append,hk,ih,List.length_cons,Nat.add_mul];omega
variable [Inhabited α]
theorem xE (encT:α→List TV) (enc:α→List Value) (k:Nat) (hkT:∀x,(encT x).length=k) (hk:∀x,(enc x).length=k) (h1:∀x,∀v∈enc x,v.oneCell' =true) {l l' :List α} (hp:l'.Perm l) {g:Gh} {T:VT} {w w' :World} {id b n:Nat} {os:Array Obj} (r:RW g T w)
    (hid:T.objs[id]?=some (.row (l.flatMap encT))) (hb:g.obj id=some b) (hv:∀x∈l,VRs g w (encT x) (enc x)) (hw:w' =sortWorldK enc k w b 0 n l'.toArray os):
    Evo g w g w' ∧RW g {T with objs:=T.objs.set id (.row (l'.flatMap encT))} w' :=by
  have hlen:l'.length=l.length:=hp.length_eq
  obtain ⟨b',q1,⟨us,ty,q2,q3,q4,q5⟩,_⟩:=r.obj id _ hid rfl
  rw [hb] at q1;injection q1 with q1;subst q1
  have hfl:(l.flatMap encT).length=l.length*k:=lW encT k hkT l
  have hflT:(l'.flatMap encT).length=l.length*k:=by rw [lW encT k hkT,hlen]
  have hfl' :(l'.flatMap enc).length=l.length*k:=by rw [nv enc k hk,hlen]
  have hF:(flatK enc k l'.toArray).size=l.length*k:=by simp [hlen]
  have hle:l.length*k≤us.length:=by simpa [hfl] using q3
  have hXs:(putCells _root_.id 0 (flatK enc k l'.toArray) us.toArray).size=us.length:=by simp [putCells]
  have hX:∀j,j<us.length→(putCells _root_.id 0 (flatK enc k l'.toArray) us.toArray)[j]?=if j<l.length*k then (l'.flatMap enc)[j]? else us[j]?:=fun j hj=>by
    simp only [putCells,Array.getElem?_mapIdx,List.getElem?_toArray,Nat.zero_le,true_and,Nat.zero_add,Nat.sub_zero,hF]
    rw [List.getElem?_eq_getElem hj]
    by_cases h:j<l.length*k
    · simp only [if_pos h,Option.map_some,_root_.id]
      have:=n7 enc k hk l'.toArray j (by simpa [hlen] using h)
      simpa using this.symm
    · simp only [if_neg h,Option.map_some]
  have hw1:(putRowK enc k (Sort.ahead w n) b 0 l'.toArray).heap=w.heap.modify b (onCells (putCells _root_.id 0 (flatK enc k l'.toArray))):=rfl
  have hoth:∀c,c≠b→(putRowK enc k (Sort.ahead w n) b 0 l'.toArray).heap[c]?=w.heap[c]?:=fun c hc=>by rw [hw1,Array.getElem?_modify,if_neg (Ne.symm hc)]
  have hbk:(putRowK enc k (Sort.ahead w n) b 0 l'.toArray).heap[b]?=some (.cells (putCells _root_.id 0 (flatK enc k l'.toArray) us.toArray) ty (0,0)):=by
    rw [hw1,Array.getElem?_modify,if_pos rfl,q2];rfl
  have hg:Gr (putRowK enc k (Sort.ahead w n) b 0 l'.toArray) w' :=by subst hw;exact BE _ _
  have hos:(putRowK enc k (Sort.ahead w n) b 0 l'.toArray).os=w.os∧(putRowK enc k (Sort.ahead w n) b 0 l'.toArray).tape=w.tape∧(putRowK enc k (Sort.ahead w n) b 0 l'.toArray).output=w.output:=⟨rfl,rfl,rfl⟩
  have hsz:(putRowK enc k (Sort.ahead w n) b 0 l'.toArray).heap.size=w.heap.size:=by rw [hw1];simp
  generalize putRowK enc k (Sort.ahead w n) b 0 l'.toArray=w1 at*
  generalize putCells _root_.id 0 (flatK enc k l'.toArray) us.toArray=X at*
  have e:X.toList.take (l'.flatMap encT).length=l'.flatMap enc:=by
    apply List.ext_getElem?
    intro j
    rw [hflT,List.getElem?_take]
    by_cases h:j<l.length*k
    · rw [if_pos h,Array.getElem?_toList,hX j (by omega),if_pos h]
    · rw [if_neg h,List.getElem?_eq_none (by omega)]
  have e0:VRs g w (l'.flatMap encT) (X.toList.take (l'.flatMap encT).length):=by
    rw [e]
    exact VRs.flatMap fun x hx=>hv x (hp.mem_iff.1 hx)
  have o1:∀v∈X.toList.take (l'.flatMap encT).length,v.oneCell' =true:=by
    intro v hv
    rw [e] at hv
    obtain ⟨x,_,hx⟩:=List.mem_flatMap.1 hv
    exact h1 x _ hx
  obtain ⟨_,e9⟩:=r.setObj hid rfl hb (o' := .gone) (w' :=w1) hos hsz hoth (by rw [aL hbk,aL q2,hXs];simp) (fun h=>by cases h)
  obtain ⟨r1,e1⟩:=r.setObj hid rfl hb (o' := .row (l'.flatMap encT)) (w' :=w1) hos hsz hoth (by rw [aL hbk,aL q2,hXs];simp)
    (fun _=>⟨X.toList,ty,by simpa using hbk,by rw [hflT];simp [hXs];exact hle,e0.mono e9,o1⟩)
  exact ⟨e1.trans (Evo.of_gr r1 hg),r1.gr hg⟩
end
end
section
open Go.RowKit

section
variable {P:Program} {G:ax} {g:Gh} {T:VT} {w:World}
theorem oR (r:RW g T w) {id size off n:Nat} {es:List (List TV)} {u:Value} (h:bI T size (.row size id off n)=some es) (hx:VR g w (.row size id off n) u):
    ∃g',Evo g w g' w∧RW g' (T.kill id) w∧VR g' w (.vec size es .none) u:=by
  simp only [bI] at h
  split at h
  · rename_i cs hid
    cases hb:(Nat.beq size size&&Nat.ble ((off+n)*size) cs.length) with
    | false=>rw [hb] at h;cases h
    | true=>
      rw [hb] at h;injection h with h;subst h
      simp only [Bool.and_eq_true] at hb
      have hle:=Nat.le_of_ble_eq_true hb.2
      obtain ⟨b,c,h1,h2,h3,h4,h5,rfl⟩:=hx.row_inv
      obtain ⟨b',q1,⟨us,t,q2,q3,q4,q5⟩,q6,q7⟩:=r.obj id _ hid rfl
      rw [h1] at q1;injection q1 with q1;subst q1
      rw [Nat.add_mul] at hle
      have hl:((cs.drop (off*size)).take (n*size)).length=n*size:=by simp;omega
      obtain ⟨k1,k2,k3⟩:=dl hl
      have hv:=(q4.drop (off*size)).take (n*size)
      have hl2:(((us.take cs.length).drop (off*size)).take (n*size)).length=n*size:=by simp;omega
      have hcell:∀(j:Nat) v,(((us.take cs.length).drop (off*size)).take (n*size))[j]?=some v→w.cell? ⟨b,off*size+j,none⟩=some v:=fun j v hv=>by
        rw [World.cell?,q2]
        simp only [List.getElem?_take,List.getElem?_drop] at hv
        split at hv
        · split at hv
          · simpa using hv
          · cases hv
        · cases hv
      have fr:=kw r hid rfl h1
      have e:=Evo.addSt (g:=g) (w:=w) (S:=fun o=>off*size≤o∧o<off*size+n*size) q6
      refine ⟨_,e,(r.kill hid rfl h1).addSt q6 fr.obj (fun k x o hx _ hin=>fr.tl k x hx (.inl ⟨o,hin⟩)) (fun o ho=> ?_), ?_⟩
      · have hj:o-off*size<(((us.take cs.length).drop (off*size)).take (n*size)).length:=by rw [hl2];omega
        have:=hcell (o-off*size) _ (List.getElem?_eq_getElem hj)
        rw [show off*size+(o-off*size)=o by omega] at this
        rw [this];rfl
      · refine .mk_vec (us:=((us.take cs.length).drop (off*size)).take (n*size)) k1.symm h3 h4 k2 trivial (by rw [k3];exact hv.mono e) (fun j hj=> .inr ⟨rfl, ?_⟩) hcell (fun u hu=>q5 u (List.mem_of_mem_drop (List.mem_of_mem_take hu)))
        rw [k3,hl] at hj
        omega
  · cases h
def ra (x:TV) (T:VT):Option (Nat × List (List TV)):=match x with
 | .row size id off n=>(bI T size (.row size id off n)).map fun es=>(size,es)
 | _=>none
theorem VCx.freezeRow {f:FuncId} {xs:List TV} {size:Nat} {es:List (List TV)} (hes:∀f h,bf f h es=es) (h:VCx P G 0 f xs ⟨[], []⟩ fun x T' =>ra x T' =some (size,es)):VCx P G 0 f xs ⟨[], []⟩ fun x T' =>x= .vec size es .none∧T' =⟨[], []⟩:=by
 refine VCx.keepQ 0 0 (Nat.le_refl _) (Nat.le_refl _) ?_
 intro g w us rw0 hG hx
 refine Calls.mono (h g w us rw0 hG hx) ?_
 rintro e w' ⟨v,x,g',T',he,hq,e',r',hv,hfx⟩
 unfold ra at hq
 split at hq
 ·rename_i sz id off n
  simp only [Option.map_eq_some_iff,Prod.mk.injEq] at hq
  obtain ⟨es',h1,rfl,rfl⟩:=hq
  obtain ⟨g2,e2,r2,v2⟩:=oR r' h1 hv
  exact ⟨v,_,g2,_,he,⟨by simp only [TV.ren,hes,Tok.ren],by simp [VT.keep]⟩,e'.trans e2,r2,v2,⟨by simp,fun i hi=>absurd hi (Nat.not_lt_zero i),fun i o b hi=>absurd hi (Nat.not_lt_zero i)⟩⟩
 ·cases hq
end
end
section
open Go.RowKit

section
variable {P:Program} {G:ax}
def sk (T:VT):List (Nat × TV × Option (VT→VT))→Nat→Option (TV × Option VT)
 | [],_=>none
 | (t,y,g)::l,s=>bif Nat.beq t s then some (y,match g with | some g=>some (g T) | none=>none) else sk T l s
def aV (l:List (Nat × TV × Option (VT→VT))):fS:=fun o _ T=>match o.op with
 | .store _ (.tmp a) _=>sk T l (500000+a)
 | _=>match o.dst with
  | some d=>sk T l d
  | none=>none
end
end
section
open Go.RowKit

section
variable {P:Program} {G:ax}
end
end
section
open Go.RowKit

def Gd (w w' :World):Prop:=Gr w w' ∧w.drawn≤w'.drawn
theorem Gd.grow {w w' :World} (h:Gd w w'):∃q os,w' =Go.Sort.grow (w.drewN q) os:=by
  obtain ⟨g,hd⟩:=h
  unfold Gr at g
  refine ⟨w'.drawn-w.drawn,w'.heap.extract w.heap.size w'.heap.size, ?_⟩
  have hh:w'.heap=w.heap++w'.heap.extract w.heap.size w'.heap.size:=by
    apply Array.ext_getElem?
    intro i
    by_cases hi:i<w.heap.size
    · rw [Array.getElem?_append_left hi,g.block i hi]
    · rw [Array.getElem?_append_right (by omega),Array.getElem?_extract]
      by_cases hi2:i<w'.heap.size
      · rw [if_pos (by simp;omega),show w.heap.size+(i-w.heap.size)=i by omega]
      · rw [if_neg (by omega),Array.getElem?_eq_none (by omega)]
  have ho:=g.os;have ht:=g.tape;have hp:=g.output
  cases w';cases w
  simp only [Go.Sort.grow,World.drewN] at*
  subst ho ht hp
  congr 1
  omega
theorem Gd.alloc {a w:World} (h:Gd a w) (o:Obj):Gd a (w.alloc o):=⟨h.1.alloc o,h.2⟩
theorem Gd.drew {a w:World} (h:Gd a w):Gd a w.drew:=⟨h.1.drew,Nat.le_trans h.2 (Nat.le_succ _)⟩
theorem Gd.refl (w:World):Gd w w:=⟨Gr.refl w,Nat.le_refl _⟩
theorem Gd.trans {a b c:World} (h:Gd a b) (k:Gd b c):Gd a c:=⟨h.1.trans k.1,Nat.le_trans h.2 k.2⟩
end
section
open Go.RowKit

section
variable {P:Program} {G:ax}
end
end
section
open Go.RowKit

def FreeT (x:TV):Prop:=∀g w g' w' u,(∀id b,g.obj id=some b→g'.obj id=some b)→VR g w x u→VR g' w' x u
theorem FreeT.val (v:Value):FreeT (.val v):=fun _ _ _ _ _ _ h=>by cases h;exact .val _
theorem nL {g g' :Gh} {w w' :World} {cs:List TV} {us:List Value} (hc:∀c∈cs,FreeT c) (ho:∀id b,g.obj id=some b→g'.obj id=some b) (h:VRs g w cs us):VRs g' w' cs us:=
 ⟨h.1,fun j x u hx hu=>hc x (List.mem_of_getElem? hx) g w g' w' u ho (h.2 j x u hx hu)⟩
def v6:VO→Prop
 | .cells cs=>∀c∈cs,FreeT c
 | .row cs=>∀c∈cs,FreeT c
 | .map _ _ es _=>∀e∈es,FreeT e.2.1
 | .defd=>True
 | .gone=>True
 | _=>False
theorem BF {g g' :Gh} {w:World} {b:Nat} {o:VO} (ho:∀id b,g.obj id=some b→g'.obj id=some b) (hf:v6 o) (h:OR g w b o):OR g' w b o:=by
 cases o with
 | cells cs=>obtain ⟨us,t,q1,q2,q3⟩:=h;exact ⟨us,t,q1,nL hf ho q2,q3⟩
 | row cs=>obtain ⟨us,t,q1,q2,q3,q4⟩:=h;exact ⟨us,t,q1,q2,nL hf ho q3,q4⟩
 | map sh look es ck=>
  obtain ⟨vs,q1,q2,q3,q4,q5,q6,q7⟩:=h
  refine ⟨vs,q1,q2,nL (fun c hc=> ?_) ho q3,q4,q5,q6,q7⟩
  obtain ⟨e,he,rfl⟩:=List.mem_map.1 hc
  exact hf e he
 | iter m since seen stepped=>exact hf.elim
 | siter s pos=>exact hf.elim
 | loop st pend σ2 ps asg body=>exact hf.elim
 | defd=>exact h
 | gone=>trivial
theorem v7 {n slot:Nat} {x:TV} {g:Gh} {w:World} {us:List Value} {u:Value} (hl:us.length=n) (hu:us[slot]?=some u) (hx:VR g w x u):VRs g w (aq n [slot] [x]) us:=by
 refine ⟨by simp [aq,gB,eV,hl],fun j y v hy hv=> ?_⟩
 simp only [aq,gB,eV,List.map_map,List.getElem?_map,Option.map_eq_some_iff] at hy
 obtain ⟨i,hi,rfl⟩:=hy
 have e:i=j:=by
  have:=(List.getElem?_eq_some_iff.1 hi).2
  simpa using this.symm
 subst e
 simp only [Function.comp_apply,mO]
 cases hb:Nat.beq slot i with
 | true=>
  have:=Nat.eq_of_beq_eq_true hb
  subst this
  rw [hu] at hv;injection hv with hv;subst hv
  exact hx
 | false=>exact .dead _
section
variable {P:Program} {G:ax}
def uq (n:Nat) (keys:List Nat) (ad:List (Nat × Nat)) (vs0:List TV) (T0 T1:VT) (slot k size:Nat) (es:List (List TV)):bP:=fun rd ro σ T D K=>(rd=none∧ro=0∧D= []∧j3 ad σ∧(b6 ad σ T).2=T0∧Nat.beq σ.length n=true∧pick keys (b6 ad σ T).1=vs0∧Nat.ble T.tails.length k=true)∧
 K .normal (aq n [slot] [.row size T1.objs.length 0 es.length]) ⟨T1.objs++ [.row es.flatten],T1.tails.set k (es.length+1,size,false)⟩ []
theorem gl (size:Nat):∀{es:List (List TV)},(∀e∈es,e.length=size)→cF size es.length es.flatten=es
 | [],_=>rfl
 | e::es,h=>by
  have h1:e.length=size:=h e List.mem_cons_self
  have h2:=gl size (es:=es) fun e he=>h e (List.mem_cons_of_mem _ he)
  simp only [List.length_cons,cF,List.flatten_cons]
  rw [List.take_left' h1,List.drop_left' h1,h2]
theorem fN {T:VT} {size id:Nat} {es:List (List TV)} (ho:T.objs[id]?=some (.row es.flatten)) (hz:∀e∈es,e.length=size):bI T size (.row size id 0 es.length)=some es:=by
 have hl:=aY hz
 have e1:((es.flatten.drop (0*size)).take (es.length*size))=es.flatten:=by
  rw [Nat.zero_mul,List.drop_zero,←hl,List.take_length]
 simp only [bI,ho]
 rw [e1,gl size hz,Nat.beq_refl,Nat.zero_add,hl,Nat.ble_eq_true_of_le (Nat.le_refl _)]
 rfl
theorem VCx.freeze {f:FuncId} {xs:List TV} {T:VT} {size:Nat} {es:List (List TV)} {Q:VT→Prop} (h:VCx P G 0 f xs T fun x T' =>∃id off n,x= .row size id off n∧bI T' size (.row size id off n)=some es∧Q (T'.kill id)):
  VCx P G 0 f xs T fun x T' =>x= .vec size es .none∧Q T' :=by
 intro g w us rw0 hG hx
 refine Calls.mono (h g w us rw0 hG hx) ?_
 rintro e w' ⟨v,x,g',T',he,⟨id,off,n,rfl,h1,hq⟩,e',r',hv,hfx⟩
 obtain ⟨g2,e2,r2,v2⟩:=oR r' h1 hv
 refine ⟨v,_,g2,_,he,⟨rfl,hq⟩,e'.trans e2,r2,v2,⟨?_,fun i hi=>absurd hi (Nat.not_lt_zero i),fun i o b hi=>absurd hi (Nat.not_lt_zero i)⟩⟩
 have:=hfx.len
 simp only [VT.kill,List.length_set];exact this
end
end
section
open Go.RowKit

section
variable {P:Program} {G:ax} {g:Gh} {T:VT} {w:World}
end
end
section
open Go.RowKit

section
variable {P:Program} {G:ax}
theorem VCx.at1 {f:FuncId} {ro k:Nat} {ys0 ys1:List TV} {o o1:VO} {T:VT} {K:TV→VT→Prop} {Q:TV→VO→List VO→Prop} (hG:gZ G) (hro:ro≤k) (ho:T.objs[k]?=some o) (hl:o.live=true) (hren:o.ren (aP [k]) (aP [])=o1) (hy:av (aP [k]) (aP []) ys0=ys1)
  (hv:VCx P G 0 f ys1 ⟨[o1], []⟩ fun x T' =>∃o' l',T' =⟨o' ::l', []⟩∧Q x o' l')
  (hk:∀x o' l',Q x o' l' →K (x.ren (aI T.objs.length [k]) (aI T.tails.length [])) ⟨T.objs.set k (o'.ren (aI T.objs.length [k]) (aI T.tails.length []))++l'.map (VO.ren (aI T.objs.length [k]) (aI T.tails.length [])),T.tails⟩):VCx P G ro f ys0 T K:=by
 have hg:T.give [k] []=⟨[o1], []⟩:=by simp only [VT.give,List.map_cons,List.map_nil,ho,Option.getD_some,hren]
 refine (VCx.lift (xs:=ys1) [k] [] hG (by simp) List.nodup_nil (fun j hj=> ?_) (by simp) (fun i hi=> ?_) hy (by rw [hg];exact hv) (fun x T' hq=> ?_)).mono ?_
 ·obtain rfl:=List.mem_singleton.1 hj;exact ⟨_,ho,hl⟩
 ·obtain rfl:=List.mem_singleton.1 hi;exact hro
 ·obtain ⟨o',l',rfl,_⟩:=hq;exact ⟨by simp,Nat.zero_le _⟩
 ·rintro x T' ⟨y,T2,⟨o',l',rfl,hq⟩,rfl,rfl⟩
  simpa [VT.back,bK] using hk y o' l' hq
end
abbrev Bs:=List (List TV)
def bT (z:Int):List TV:= [.val (.int .u8 z)]
def bV (l:List Int):Bs:=l.map bT
def IsB (b:Bs):Prop:=(∃l:List Int,b=bV l∧∀z∈l,0≤z∧z<256)∧b.length≤1000000
def Gz:List TV→Int
 | [.val (.int _ z)]=>z
 | _=>0
theorem IsB.take {b:Bs} (h:IsB b) (n:Nat):IsB (b.take n):=by
 obtain ⟨⟨l,rfl,hl⟩,h2⟩:=h
 exact ⟨⟨l.take n,by simp [bV,List.map_take],fun z hz=>hl z (List.mem_of_mem_take hz)⟩,by rw [List.length_take];omega⟩
theorem IsB.nil:IsB []:=⟨⟨[],rfl,fun _ h=>by simp at h⟩,Nat.zero_le _⟩
theorem sn (f g:Nat→Option Nat):∀l:List Int,bf f g (bV l)=bV l
 | []=>rfl
 | a::l=>by simp only [bV,List.map_cons,bf];rw [show bf f g (l.map bT)=l.map bT from sn f g l];rfl
theorem IsB.ren {b:Bs} (h:IsB b) (f g:Nat→Option Nat):bf f g b=b:=by
 obtain ⟨⟨l,rfl,_⟩,_⟩:=h
 exact sn f g l
theorem IsB.at {b:Bs} (h:IsB b) {j:Nat} {r:List TV} (hr:b[j]?=some r):∃z:Int,r=bT z∧0≤z∧z<256:=by
 obtain ⟨⟨l,rfl,hl⟩,_⟩:=h
 simp only [bV,List.getElem?_map,Option.map_eq_some_iff] at hr
 obtain ⟨z,hz,rfl⟩:=hr
 exact ⟨z,rfl,hl z (List.mem_of_getElem? hz)⟩
theorem IsB.len1 {b:Bs} (h:IsB b):∀e∈b,e.length=1:=fun e he=>by
 obtain ⟨j,hj,rfl⟩:=List.getElem_of_mem he
 obtain ⟨z,hz,_⟩:=h.at (List.getElem?_eq_getElem hj)
 rw [hz];rfl
def C8 (n:Int) (b:Bs) (e:Int):Bool:=decide (e=0)&&decide (0≤n)&&decide (n≤b.length)
def F7 (n:Int) (b:Bs) (e:Int):Bs:=bif C8 n b e then b.drop n.toNat else b
def C9 (n:Int) (b:Bs) (e:Int):Int:=bif decide (e=0) then (bif decide (n<0) then 2 else bif decide (n≤b.length) then 0 else 3) else e
section
variable {P:Program} {G:ax}
end
end
section
open Go.RowKit

section
variable {P:Program} {G:ax}
theorem iF (vs:List Value):(vs.map fun v=> [TV.val v]).flatten=vs.map .val:=by
 induction vs with
 | nil=>rfl
 | cons a l ih=>simp [ih]
theorem VCx.ofRetsT {f:FuncId} {xs:List TV} {us:List Value} (hxs:xs.map bM=us.map some) {ty:TypeId} {vs:List Value} (h1:∀v∈vs,v.oneCell' =true) (hm:vs.length≤maxLen)
    (h:∀w,Calls P f us.toArray w (Rets w fun v w' =>w'.ownsRow w.heap.size ty 1 v vs.length vs)):VCx P G 0 f xs ⟨[], []⟩ fun x T' =>x= .vec 1 (vs.map fun v=> [.val v]) .none∧T' =⟨[], []⟩:=by
  intro g w us' r hG hx
  obtain rfl:us' =us:=qy hxs hx
  refine (h w).mono ?_
  rintro e w' ⟨v,rfl,gr,hl,hown⟩
  have r1:=r.gr gr
  have e1:=Evo.of_gr r gr
  rcases hown with ⟨rfl,h0⟩ | ⟨b,cap,cur,rfl,hb,hg,hnc,hcm,hcs,htk⟩
  · have:vs= []:=List.eq_nil_of_length_eq_zero (by omega)
    subst this
    exact ⟨_,_,g,_,rfl,⟨rfl,rfl⟩,e1,r1, .nil trivial,⟨by simp,fun i hi=>absurd hi (Nat.not_lt_zero i),fun i o b hi=>absurd hi (Nat.not_lt_zero i)⟩⟩
  · have hnf:¬g.fr b:=fun hf=>by have:=r.fr b hf;omega
    have hcell:∀(j:Nat) u,vs[j]?=some u→w'.cell? ⟨b,0+j,none⟩=some u:=fun j u hu=>by
      have hj:=(List.getElem?_eq_some_iff.1 hu).1
      unfold World.cell?
      simp only [hg,Nat.zero_add]
      rw [←htk,List.getElem?_take,if_pos (by omega)] at hu
      simpa using hu
    refine ⟨_,_,g.addSt b (fun o=>o<vs.length),_,rfl,⟨rfl,rfl⟩,e1.trans (Evo.addSt hnf),r1.addSt hnf (fun id o h=>by simp at h) (fun k x o hx=>by rw [r1.tout k (Nat.zero_le _)] at hx;cases hx) (fun o ho=> ?_), ?_,⟨by simp,fun i hi=>absurd hi (Nat.not_lt_zero i),fun i o b hi=>absurd hi (Nat.not_lt_zero i)⟩⟩
    · have:=hcell o _ (List.getElem?_eq_getElem ho)
      rw [Nat.zero_add] at this
      rw [this];rfl
    · refine .mk_vec (us:=vs) (by simp) (by simpa using hnc) hcm (fun e he=>by obtain ⟨v,_,rfl⟩:=List.mem_map.1 he;rfl) trivial (by rw [iF];exact VRs.vals _ _ _) (fun j hj=> .inr ⟨rfl, ?_⟩) hcell h1
      rw [iF] at hj
      simpa using hj
end
end
section
open Go.RowKit

section
variable {P:Program} {G:ax}
theorem VCx.ofOwn {f:FuncId} {xs:List TV} {ty:TypeId} {vs:List Value} (h1:∀v∈vs,v.oneCell' =true) (hm:vs.length≤maxLen)
    (h:∀g w us,VRs g w xs us→Calls P f us.toArray w (Rets w fun v w' =>w'.ownsRow w.heap.size ty 1 v vs.length vs)):VCx P G 0 f xs ⟨[], []⟩ fun x T' =>x= .vec 1 (vs.map fun v=> [.val v]) .none∧T' =⟨[], []⟩:=by
  intro g w us r hG hx
  refine (h g w us hx).mono ?_
  rintro e w' ⟨v,rfl,gr,hl,hown⟩
  have r1:=r.gr gr
  have e1:=Evo.of_gr r gr
  rcases hown with ⟨rfl,h0⟩ | ⟨b,cap,cur,rfl,hb,hg,hnc,hcm,hcs,htk⟩
  · have:vs= []:=List.eq_nil_of_length_eq_zero (by omega)
    subst this
    exact ⟨_,_,g,_,rfl,⟨rfl,rfl⟩,e1,r1, .nil trivial,⟨by simp,fun i hi=>absurd hi (Nat.not_lt_zero i),fun i o b hi=>absurd hi (Nat.not_lt_zero i)⟩⟩
  · have hnf:¬g.fr b:=fun hf=>by have:=r.fr b hf;omega
    have hcell:∀(j:Nat) u,vs[j]?=some u→w'.cell? ⟨b,0+j,none⟩=some u:=fun j u hu=>by
      have hj:=(List.getElem?_eq_some_iff.1 hu).1
      unfold World.cell?
      simp only [hg,Nat.zero_add]
      rw [←htk,List.getElem?_take,if_pos (by omega)] at hu
      simpa using hu
    refine ⟨_,_,g.addSt b (fun o=>o<vs.length),_,rfl,⟨rfl,rfl⟩,e1.trans (Evo.addSt hnf),r1.addSt hnf (fun id o h=>by simp at h) (fun k x o hx=>by rw [r1.tout k (Nat.zero_le _)] at hx;cases hx) (fun o ho=> ?_), ?_,⟨by simp,fun i hi=>absurd hi (Nat.not_lt_zero i),fun i o b hi=>absurd hi (Nat.not_lt_zero i)⟩⟩
    · have:=hcell o _ (List.getElem?_eq_getElem ho)
      rw [Nat.zero_add] at this
      rw [this];rfl
    · refine .mk_vec (us:=vs) (by simp) (by simpa using hnc) hcm (fun e he=>by obtain ⟨v,_,rfl⟩:=List.mem_map.1 he;rfl) trivial (by rw [iF];exact VRs.vals _ _ _) (fun j hj=> .inr ⟨rfl, ?_⟩) hcell h1
      rw [iF] at hj
      simpa using hj
end
def dM (l:List Int):List Value:=l.map fun z=> .int .u8 z
theorem gm (l:List Int):bV l=(dM l).map fun v=> [.val v]:=by simp [bV,dM,bT,Function.comp_def]
theorem xF {g:Gh} {w:World} {l:List Int} {tok:Tok} {v:Value} (h:VR g w (.vec 1 (bV l) tok) v) (hne:l≠ []):Rd w 1 v l.length (dM l):=by
  have hlen:(bV l).length=l.length:=by simp [bV]
  have hne2:bV l≠ []:=fun e=>hne (by have:=congrArg List.length e;rw [hlen] at this;exact List.eq_nil_of_length_eq_zero this)
  rcases h.vec_inv with ⟨_,e,_⟩ | ⟨b,o,c,us,rfl,h1,h2,_,_,h4,_,h5,_⟩ | ⟨a,_,e,_⟩
  · exact absurd e hne2
  · have hfl:(bV l).flatten=(dM l).map .val:=by rw [gm,iF]
    rw [hfl] at h4
    have hu:us=dM l:=by
      refine List.ext_getElem? fun j=> ?_
      have hl:us.length=(dM l).length:=by have:=h4.1;simpa using this
      by_cases hj:j<us.length
      · have hx:((dM l).map TV.val)[j]?=some (.val (dM l)[j]):=by rw [List.getElem?_map,List.getElem?_eq_getElem (by omega)];rfl
        have:=(h4.2 j _ us[j] hx (List.getElem?_eq_getElem hj)).val_inv
        rw [List.getElem?_eq_getElem hj,List.getElem?_eq_getElem (by omega),this]
      · rw [List.getElem?_eq_none (by omega),List.getElem?_eq_none (by omega)]
    subst hu
    rw [hlen] at h1 ⊢
    exact ⟨by simp [dM],_,c,rfl,h1,h2,(fun h=>by cases h),fun ad ha=>by injection ha with ha;subst ha;exact ⟨rfl,fun j u hu=>h5 j u hu⟩⟩
  · exact absurd e hne2
end
section
open Go.RowKit

def TVle (x y:TV):Prop:=∀g w u,VR g w x u→VR g w y u
def TVleL:List TV→List TV→Prop
 | [], []=>True
 | x::l,y::m=>TVle x y∧TVleL l m
 | _,_=>False
theorem TVle.refl (x:TV):TVle x x:=fun _ _ _ h=>h
theorem TVle.of_eq {x y:TV} (h:x=y):TVle x y:=h▸TVle.refl x
theorem TVle.nil (size:Nat):TVle (.val (.slice none 0 0)) (.vec size [] .none):=fun _ _ _ h=>by
 obtain rfl:=h.val_inv
 exact .nil trivial
theorem TVle.vec (size:Nat) (es:List (List TV)) (tok:Tok):TVle (.vec size es tok) (.vec size es .none):=fun _ _ _ h=>fM h
theorem TVleL.at:∀{l m:List TV},TVleL l m→l.length=m.length∧∀(j:Nat) x y,l[j]?=some x→m[j]?=some y→TVle x y
 | [], [],_=>⟨rfl,fun j _ _ h=>by simp at h⟩
 | a::l,b::m,h=>by
  obtain ⟨h1,h2⟩:=TVleL.at h.2
  refine ⟨by simp [h1],fun j x y hx hy=> ?_⟩
  cases j with
  | zero=>simp at hx hy;subst hx hy;exact h.1
  | succ j=>exact h2 j x y (by simpa using hx) (by simpa using hy)
 | [],_::_,h=>h.elim
 | _::_, [],h=>h.elim
theorem TVleL.vrs {l m:List TV} (h:TVleL l m) {g:Gh} {w:World} {us:List Value} (hv:VRs g w l us):VRs g w m us:=by
 obtain ⟨h1,h2⟩:=h.at
 refine ⟨by rw [hv.1,h1],fun j y u hy hu=> ?_⟩
 have hj:j<l.length:=by rw [h1];exact (List.getElem?_eq_some_iff.1 hy).1
 exact h2 j _ y (List.getElem?_eq_getElem hj) hy g w u (hv.2 j _ u (List.getElem?_eq_getElem hj) hu)
theorem TVle.tup {l m:List TV} (h:TVleL l m):TVle (.tup l) (.tup m):=fun g w u hu=>by
 obtain ⟨us,rfl,hv⟩:=hu.tup_inv
 obtain ⟨h1,h2⟩:=h.vrs hv
 exact .tup h1 h2
theorem TVle.agg {l m:List TV} (h:TVleL l m):TVle (.agg l) (.agg m):=fun g w u hu=>by
 cases hu with
 | agg hl hv=>
  obtain ⟨h1,h2⟩:=h.vrs ⟨hl,hv⟩
  exact .agg h1 h2
theorem VCx.toLe {P:Program} {G:ax} {f:FuncId} {xs:List TV} {T:VT} {y:TV} {Q:VT→Prop} (h:VCx P G 0 f xs T fun x T' =>TVle x y∧Q T'):VCx P G 0 f xs T fun x T' =>x=y∧Q T' :=by
 intro g w us rw0 hG hx
 refine Calls.mono (h g w us rw0 hG hx) ?_
 rintro e w' ⟨v,x,g',T',he,⟨hq,hQ⟩,e',r',hv,hfx⟩
 exact ⟨v,_,g',T',he,⟨rfl,hQ⟩,e',r',hq _ _ _ hv,hfx⟩
end
section
open Go.RowKit

section
variable {P:Program} {G:ax}
theorem tP {ro:Nat} {T:VT} {t e tx:TypeId} {s x:Operand} {l:List (Nat × TV)} {inf:TypeInfo} {z:Value} {q0:List TV} {qs:List (List TV)} {tok:Tok} {id n:Nat} {cs:List TV} (ht:P.underlying t=some (.slice e)) (hi:P.info? e=some inf) (hz:inf.zero=some z) (hzs:z.cells.size=inf.size) (hz1:z.cells.toList.all Value.oneCell' =true)
  (hsl:dI (P.underlying tx)=true) (hs:aN G l s= .row inf.size id 0 n) (ho:T.objs[id]?=some (.row cs)) (hro:ro≤id) (hn:n*inf.size≤cs.length) (hx:aN G l x= .vec inf.size (q0::qs) tok) (hb:(n+(q0::qs).length)*(inf.bytes+1)≤140737488355328):
  aW P G ro T (.call ⟨.builtin .append, #[s,x], #[t,tx]⟩) l (.row inf.size T.objs.length 0 (n+(q0::qs).length)) ((T.kill id).newRow (cs.take (n*inf.size)++(q0::qs).flatten)):=by
 refine .mk ?_
 have h1:aS P (.call ⟨.builtin .append, #[s,x], #[t,tx]⟩) (aN G l)=none:=by simp [aS,de]
 have h2:aH P T (.call ⟨.builtin .append, #[s,x], #[t,tx]⟩) (aN G l)=none:=by simp [aH,cP,gE]
 have hr:bI T inf.size (.vec inf.size (q0::qs) tok)=some (q0::qs):=by simp [bI,Nat.beq_refl]
 have h4:kB P T t tx (.row inf.size id 0 n) (.vec inf.size (q0::qs) tok)=none:=by simp [kB,ht]
 have h3:kx P ro T t tx (.row inf.size id 0 n) (.vec inf.size (q0::qs) tok)=some (.row inf.size T.objs.length 0 (n+(q0::qs).length),(T.kill id).newRow (cs.take (n*inf.size)++(q0::qs).flatten)):=by
  unfold kx
  simp only [ht,hi,hz,hr,hzs,decide_true,hz1,hsl,Bool.and_self,cond_true,Nat.beq_refl,ho,Nat.ble_eq_true_of_le hro,Nat.ble_eq_true_of_le hn,Nat.ble_eq_true_of_le hb]
 have h5:ox P ro T t tx (.row inf.size id 0 n) (.vec inf.size (q0::qs) tok)=none:=rfl
 simp only [ep,h1,h2,i6,hs,hx,hsl,h4,h5,h3,cond_true]
end
end
section
open Go.RowKit

end
section
open Go.RowKit

section
variable {P:Program} {G:ax}
end
end
section
open Go.RowKit

section
variable {P:Program} {G:ax}
theorem rc {j len:Nat} (h:j<len) (hlen:len≤2000000):IntKind.wrap IntKind.i64 (((j:Nat):Int)+(1:Int))=((j+1:Nat):Int):=by
 simp only [IntKind.wrap,IntKind.bits,IntKind.signed];simp;omega
theorem BG {f:FuncId} {id:Nat} (hc:eU id (ar P f id)=true) (n:Nat) (keys:List Nat) (sl:Int→List TV) (T:VT) (len:Nat) (Post:Exit→List TV→VT→Prop)
  (hbody:∀j:Nat,j≤len→VWx P G none 0 (cp P f id) (aq n keys (sl j)) T [] (cQ keys fun e vs T' D m=>D= []∧m=n∧match e with
   | .normal=>j<len∧((T' =T∧vs=sl (j+1:Nat))∨(T'.keep T.objs.length T.tails.length=T∧av (au T.objs.length) (au T.tails.length) vs=sl (j+1:Nat)))
   | .exit i=>cond (Nat.beq i id) (Post .normal vs T') (Post (.exit i) vs T')
   | e=>Post e vs T')):
  ∀K:KX,(∀e vs T',Post e vs T' →K e (aq n keys vs) T' [])→VWx P G none 0 (ar P f id) (aq n keys (sl (0:Nat))) T [] K:=by
 intro K hK
 refine di (f:=f) (id:=id) hc n keys (fun j:Nat=>len-j) (fun j:Nat=>sl j) (fun _=>T) (fun j=>j≤len) T.objs.length T.tails.length (fun _ _=>⟨Nat.le_refl _,Nat.le_refl _⟩) Post (fun j hj=> ?_) 0 (Nat.zero_le _) K hK
 refine (hbody j hj).mono fun e σ T' D hq=> ?_
 obtain ⟨h1,h2,h3⟩:=hq
 refine ⟨h1,h2, ?_⟩
 cases e
 case normal=>
  obtain ⟨hlt,h4⟩:=h3
  refine ⟨j+1,hlt,by show len-(j+1)<len-j;omega, ?_⟩
  exact h4
 case exit i=>exact h3
 all_goals exact h3
end
end
section
open Go.RowKit

section
variable {P:Program} {G:ax}
end
def GA (B:Bs) (n:Int):Bs:=B.drop n.toNat
def F8 (m:Int) (B:Bs) (n e:Int):Int:=bif C8 m (GA B n) e then n+m else n
section
variable {P:Program} {G:ax}
end
end
section
open Go.RowKit

end
section
open Go.RowKit

def GH (z:Int):TV:= .val (.int .u8 z)
section
variable {cs:List TV} {off n:Nat}
end
section
variable {P:Program} {G:ax}
end
end
section
open Go.RowKit

section
variable {P:Program} {G:ax}
theorem oS {ro:Nat} {T:VT} {t e tn:TypeId} {s x:Operand} {l:List (Nat × TV)} {inf:TypeInfo} {z:Value} {kn kq:IntKind} {m:Int} (ht:P.underlying t=some (.slice e)) (htn:P.underlying tn=some (.int kn)) (hi:P.info? e=some inf) (hz:inf.zero=some z) (hzs:z.cells.size=inf.size) (h0s:0<inf.size)
  (hz1:z.cells.toList.all Value.oneCell' =true) (hs:aN G l s= .val (.slice none 0 0)) (hx:aN G l x= .val (.int kq m)) (h0:0<m) (hb:m.toNat*(inf.bytes+1)≤140737488355328):
  aW P G ro T (.call ⟨.builtin .append, #[s,x], #[t,tn]⟩) l (.row inf.size T.objs.length 0 m.toNat) (T.newRow ((Builtin.zeroCells z.cells m.toNat).toList.map .val)):=by
 refine .mk ?_
 have h1:aS P (.call ⟨.builtin .append, #[s,x], #[t,tn]⟩) (aN G l)=none:=by simp [aS,de]
 have h2:aH P T (.call ⟨.builtin .append, #[s,x], #[t,tn]⟩) (aN G l)=none:=by simp [aH,cP,gE]
 have hsl:dI (P.underlying tn)=false:=by rw [htn];rfl
 have h3:ov P T t tn (.val (.slice none 0 0)) (.val (.int kq m))=some (.row inf.size T.objs.length 0 m.toNat,T.newRow ((Builtin.zeroCells z.cells m.toNat).toList.map .val)):=by
  unfold ov
  simp only [ht,htn,hi,hz,hzs,decide_eq_true h0,decide_eq_true h0s,decide_true,hz1,Nat.ble_eq_true_of_le hb,Bool.and_self,cond_true]
 simp only [ep,h1,h2,i6,hs,hx,hsl,h3,cond_false]
theorem v8 {ro:Nat} {T:VT} {t e tx:TypeId} {s x:Operand} {l:List (Nat × TV)} {inf:TypeInfo} {z:Value} {q0:List TV} {qs:List (List TV)} {id n:Nat} {cs:List TV} (ht:P.underlying t=some (.slice e)) (hi:P.info? e=some inf) (hz:inf.zero=some z) (hzs:z.cells.size=inf.size) (hz1:z.cells.toList.all Value.oneCell' =true)
  (hsl:dI (P.underlying tx)=true) (hs:aN G l s= .row inf.size id 0 n) (ho:T.objs[id]?=some (.row cs)) (hro:ro≤id) (hn:n*inf.size≤cs.length) (hr:bI T inf.size (aN G l x)=some (q0::qs)) (hb:(n+(q0::qs).length)*(inf.bytes+1)≤140737488355328):
  aW P G ro T (.call ⟨.builtin .append, #[s,x], #[t,tx]⟩) l (.row inf.size T.objs.length 0 (n+(q0::qs).length)) ((T.kill id).newRow (cs.take (n*inf.size)++(q0::qs).flatten)):=by
 refine .mk ?_
 have h1:aS P (.call ⟨.builtin .append, #[s,x], #[t,tx]⟩) (aN G l)=none:=by simp [aS,de]
 have h2:aH P T (.call ⟨.builtin .append, #[s,x], #[t,tx]⟩) (aN G l)=none:=by simp [aH,cP,gE]
 have h4:kB P T t tx (.row inf.size id 0 n) (aN G l x)=none:=by simp [kB,ht]
 have h5:ox P ro T t tx (.row inf.size id 0 n) (aN G l x)=none:=rfl
 have h3:kx P ro T t tx (.row inf.size id 0 n) (aN G l x)=some (.row inf.size T.objs.length 0 (n+(q0::qs).length),(T.kill id).newRow (cs.take (n*inf.size)++(q0::qs).flatten)):=by
  unfold kx
  simp only [ht,hi,hz,hr,hzs,decide_true,hz1,hsl,Bool.and_self,cond_true,Nat.beq_refl,ho,Nat.ble_eq_true_of_le hro,Nat.ble_eq_true_of_le hn,Nat.ble_eq_true_of_le hb]
 simp only [ep,h1,h2,i6,hs,hsl,h4,h5,h3,cond_true]
end
end
section
open Go.RowKit

end
section
open Go.RowKit

section
variable {P:Program} {G:ax}
end

section
variable {g:Gh} {w:World}
end

section
variable {P:Program} {G:ax}
end
end
section
open Go.RowKit

section
variable {P:Program} {G:ax}
end
end
section
open Go.RowKit

section
variable {P:Program} {G:ax}
theorem VCx.ofOwnT {f:FuncId} {xs:List TV} {ty:TypeId} {vs:List Value} (h1:∀v∈vs,v.oneCell' =true) (hm:vs.length≤maxLen)
    (h:∀g w us,VRs g w xs us→Calls P f us.toArray w (Rets w fun v w' =>w'.ownsRow w.heap.size ty 1 v vs.length vs)):VCx P G 0 f xs ⟨[], []⟩ fun x T' =>x= .vec 1 (vs.map fun v=> [.val v]) (.tail 0 0)∧T' =⟨[], [(0,1,false)]⟩:=by
  intro g w us r hG hx
  refine (h g w us hx).mono ?_
  rintro e w' ⟨v,rfl,gr,hl,hown⟩
  have r1:=r.gr gr
  have e1:=Evo.of_gr r gr
  rcases hown with ⟨rfl,h0⟩ | ⟨b,cap,cur,rfl,hb,hg,hnc,hcm,hcs,htk⟩
  · have:vs= []:=List.eq_nil_of_length_eq_zero (by omega)
    subst this
    obtain ⟨g2,e2,r2,h2⟩:=r1.newTail 1 false
    exact ⟨_,_,g2,_,rfl,⟨rfl,rfl⟩,e1.trans e2,r2, .nil ⟨_,h2,Nat.le_refl _,rfl⟩,⟨by simp,fun i hi=>absurd hi (Nat.not_lt_zero i),fun i o b hi=>absurd hi (Nat.not_lt_zero i)⟩⟩
  · have fs:=r.fresh hb
    have hcell:∀(j:Nat) u,vs[j]?=some u→w'.cell? ⟨b,0+j,none⟩=some u:=fun j u hu=>by
      have hj:=(List.getElem?_eq_some_iff.1 hu).1
      unfold World.cell?
      simp only [hg,Nat.zero_add]
      rw [←htk,List.getElem?_take,if_pos (by omega)] at hu
      simpa using hu
    have hsz:cur.size=cap:=by simpa using hcs
    have hnone:∀k,g.tail k=none:=fun k=>r1.tout k (Nat.zero_le _)
    obtain ⟨x,hxd⟩:∃x:Tl,x=⟨b,vs.length,cap,1,0,ty,w'.heap.size,false,false⟩:=⟨_,rfl⟩
    have hgrow:∀y,g.tail 0=some y→y.e<x.e∧x.size=y.size∧x.lo=y.lo:=fun y hy=>by rw [hnone] at hy;cases hy
    have hlo:g.tail 0=none→w'.heap.size≤x.lo:=fun _=>by rw [hxd];exact Nat.le_refl _
    have hfz:∀o,o<cap→(w'.cell? ⟨b,o,none⟩).isSome=true∧w'.frozen? ⟨b,o,none⟩=false:=fun o ho=>by
      refine ⟨?_,by simp [World.frozen?,hg]⟩
      unfold World.cell?
      simp only [hg]
      rw [Array.getElem?_eq_getElem (by omega)];rfl
    have r2:=r1.setTail (T' :=⟨[], [(0,1,false)]⟩) (k:=0) (x:=x) rfl (.inl ⟨by rw [hxd];rfl,rfl⟩)
      (fun c o hin=>by
        rw [hxd] at hin
        obtain ⟨rfl,h2,h3⟩:=hin
        exact ⟨(hfz o h3).1,(hfz o h3).2,fs.st o,fs.fr⟩)
      (fun i oi c hi=>by simp at hi) (fun j y c _ hy=>by rw [hnone] at hy;cases hy) hgrow hlo
      (fun ho=>by rw [hxd] at ho;cases ho) (fun ho=>by rw [hxd] at ho;rcases ho with ho | ho<;>cases ho) (by rw [hxd];exact Nat.le_refl _)
    have e2:=e1.trans (Evo.setTail (w:=w') (x:=x) hgrow hlo)
    have r3:=r2.addSt (b:=b) (S:=fun o=>o<vs.length) fs.fr (fun id o hi=>by simp at hi)
      (fun k y o hy ho hin=>by
        by_cases hk:k=0
        · subst hk
          rw [gX] at hy
          injection hy with hy
          rw [←hy,hxd] at hin
          have:=hin.2.1
          simp only at this
          omega
        · have:g.tail k=some y:=by simpa [Gh.setTail,hk] using hy
          rw [hnone] at this;cases this)
      (fun o ho=>(hfz o (by omega)).1)
    have e3:=e2.trans (Evo.addSt (w:=w') (b:=b) (S:=fun o=>o<vs.length) (show ¬(g.setTail 0 x).fr b from fs.fr))
    refine ⟨_,_,_,_,rfl,⟨rfl,rfl⟩,e3,r3, ?_,⟨by simp,fun i hi=>absurd hi (Nat.not_lt_zero i),fun i o b hi=>absurd hi (Nat.not_lt_zero i)⟩⟩
    refine .mk_vec (us:=vs) (by simp) (by simpa using hnc) hcm (fun e he=>by obtain ⟨v,_,rfl⟩:=List.mem_map.1 he;rfl)
      ⟨x,gX g 0 x,Nat.zero_le _,by rw [hxd],fun _ _=>by rw [hxd];exact ⟨rfl,by simp,by simp⟩,fun _ hbn=>by rw [hxd] at hbn;cases hbn⟩
      (by rw [iF];exact VRs.vals _ _ _) (fun j hj=> .inr ⟨rfl, ?_⟩) hcell h1
    rw [iF] at hj
    simpa using hj
theorem fO {T:VT} {size id n:Nat} {es:List (List TV)} (ho:T.objs[id]?=some (.row es.flatten)) (hz:∀e∈es,e.length=size) (hn:n=es.length):ra (.row size id 0 n) T=some (size,es):=by
 subst hn
 have hfl:es.flatten.length=es.length*size:=aY hz
 have hb:Nat.ble ((0+es.length)*size) es.flatten.length=true:=by rw [hfl,Nat.zero_add];exact Nat.ble_eq_true_of_le (Nat.le_refl _)
 simp only [ra,bI,ho,Nat.beq_refl,hb,Bool.and_self,cond_true,Nat.zero_mul,List.drop_zero]
 rw [List.take_of_length_le (by omega),gl size hz]
 rfl
theorem VCx.argsLe {ro:Nat} {f:FuncId} {xs ys:List TV} {T:VT} {Q:TV→VT→Prop} (hle:TVleL ys xs) (h:VCx P G ro f xs T Q):VCx P G ro f ys T Q:=fun g w us r hG hx=>h g w us r hG (hle.vrs hx)
theorem VCx.liftTail {ro:Nat} {f:FuncId} {xs ys:List TV} {T:VT} {b:List (List TV)} {K:TV→VT→Prop} (hv:gZ G) (h:VCx P G 0 f xs ⟨[], []⟩ fun x T' =>x= .vec 1 b (.tail 0 0)∧T' =⟨[], [(0,1,false)]⟩) (hx:av (aP []) (aP []) ys=xs) (hy:∀f h,bf f h b=b) (k:K (.vec 1 b (.tail T.tails.length 0)) {T with tails:=T.tails++ [(0,1,false)]}):VCx P G ro f ys T K:=by
 refine (VCx.lift (T:=T) [] [] hv List.nodup_nil List.nodup_nil (by simp) (by simp) (by simp) hx (by rw [VT.give_nil];exact h) (fun _ _ _=>⟨Nat.zero_le _,Nat.zero_le _⟩)).mono ?_
 rintro z T' ⟨x,T'',⟨rfl,rfl⟩,rfl,rfl⟩
 rw [VT.back_nil]
 simpa [TV.ren,Tok.ren,hy,aI] using k
theorem VCx.atKeep {f:FuncId} {ro i:Nat} {ys0 ys1:List TV} {o:VO} {T:VT} {K:TV→VT→Prop} {R:TV→Prop} (hG:gZ G) (hro:ro≤i) (ho:T.objs[i]?=some o) (hl:o.live=true) (hren:∀f g,o.ren f g=o) (hy:TVleL (av (aP [i]) (aP []) ys0) ys1)
  (hv:VCx P G 0 f ys1 ⟨[o], []⟩ fun x T' =>R x∧T' =⟨[o], []⟩) (hx:∀x,R x→(∀f g,x.ren f g=x)∧K x T):VCx P G ro f ys0 T K:=by
 have hs:T.objs.set i o=T.objs:=by
  refine List.ext_getElem? fun j=> ?_
  by_cases hj:i=j
  ·subst hj
   rw [List.getElem?_set_self (List.getElem?_eq_some_iff.1 ho).1,ho]
  ·rw [List.getElem?_set_ne hj]
 refine VCx.at1 (o1:=o) (Q:=fun x o' l' =>R x∧o' =o∧l' = []) hG hro ho hl (hren _ _) rfl (VCx.argsLe hy (hv.mono ?_)) ?_
 ·rintro x T' ⟨h1,rfl⟩
  exact ⟨_,_,rfl,h1,rfl,rfl⟩
 ·rintro x o' l' ⟨h1,rfl,rfl⟩
  obtain ⟨h2,h3⟩:=hx x h1
  rw [h2,hren,hs,List.map_nil,List.append_nil]
  exact h3
end
end
section
open Go.RowKit

section
variable {P:Program} {G:ax}
end
end
section
open Go.RowKit

section
variable {P:Program} {G:ax}
end
end
section
open Go.RowKit

def ae:ax:=fun _=>none
def bc:FuncId→Option aO:=fun _=>none
def ay:Nat→Option (bP × Code):=fun _=>none
abbrev oT:=List (Nat × Nat × Bool)
theorem ac:Try.prog.follows .mixedOrders=true:=by kernel_rfl
theorem aa:gj Try.prog=true:=by kernel_rfl
theorem am:gZ ae:=fun _ _ h=>by cases h
theorem xG {j len:Nat} (h:j<len) (hlen:len≤9223372036854775807):IntKind.wrap IntKind.i64 (((j:Nat):Int)+(1:Int))=((j+1:Nat):Int):=by
 simp only [IntKind.wrap,IntKind.bits,IntKind.signed];simp;omega
end

end Go.Proofs.Ytnfplefcghadfaa