/-Part 4 of the proof of packAll_holds:Vfin,Vlp,Block ... No condition. -/
import Derived.Sort.LoopGhostIn
import Derived.RangeFuncNested
import Derived.ProofKit
import Derived.OpenShut
import Derived.Lib.SmallJoins
import Derived.Sort.Grow
import Derived.Shelf.GgSortFunc.InsertionK
import Derived.Laws.BitsAllLaws
import Derived.Deep.Slices
import Derived.Shelf.SlSortCmp.NoneTotal
import Derived.Ground.SlsfProg
import Derived.Test.YtnfplefcghadfaaGreatProg
import Derived.Test.YtnfplefcghadfaaGreatPz1
import Derived.Test.YtnfplefcghadfaaGreatPz2
import Derived.Test.YtnfplefcghadfaaGreatPz3
set_option maxRecDepth 100000
namespace Go.Proofs.YtnfplefcghadfaaGreat
section
open Go.RowKit

section
variable {P:Program} {G:aK} {F:fq}
theorem Fix.of_min {ro:Nat} {g:Gh} {T T' :VT} {w w' :World} (h:Fix (min ro T.objs.length) g T w T' w'):Fix ro g T w T' w' :=
 ⟨h.len,fun i hi hl=>h.same i (by omega) hl,fun i o b hi ho=>h.heap i o b (by have:=(List.getElem?_eq_some_iff.1 ho).1;omega) ho⟩
theorem wG {ops:Array Oper} {p:List (Oper × PK)} (h:tD P ops=some p):iy P ops=some p:=by
 unfold tD at h
 split at h
 ·rename_i q hq
  cases hb:(AM q&&(iz P ops).isSome) with
  | true=>rw [hb] at h;cases h
  | false=>rw [hb] at h;rw [hq];exact h
 ·cases h
theorem wH {ops:Array Oper} {p:List (Oper × PK)} (h:tE P F ops=some p):iy P ops=some p:=by
 unfold tE at h
 cases hb:(F ⟨some 999999, .move (.tmp 0),0, "", #[],none⟩ [] ⟨[], []⟩).isSome with
 | true=>rw [hb] at h;exact h
 | false=>
  rw [hb,cond_false] at h
  cases hs:Nat.ble ops.size 12 with
  | true=>rw [hs] at h;exact wG h
  | false=>rw [hs] at h;cases h
theorem ER {call:fY} {rnd:g9} (hc:fD P G call) (hrr:gN P G rnd) (hm:P.follows .mixedOrders=true) {rd:Option Nat} {ro id:Nat} {ops:Array Oper} {σ:List TV} {T:VT} {D:List Nat} {Q:KX}
  (h:AN P G F call rnd ro ops σ T fun σ T=>Q .normal σ T D):VWx P G rd ro (.region id ops true) σ T D Q:=by
 intro r g w a rw0 hG hσ hd hD hrd
 unfold AN at h
 cases hb:wq ops with
 | false=>rw [hb] at h;exact h.elim
 | true=>
  rw [hb] at h
  simp only [cond_true] at h
  have hnd:∀(j:Nat) o,ops[j]?=some o→b8 o.op=true:=fun j o ho=>by
   obtain ⟨hlt,he⟩:=Array.getElem?_eq_some_iff.1 ho
   exact List.all_eq_true.1 hb o (by rw [←he];exact Array.mem_toList_iff.2 (Array.getElem_mem hlt))
  have old:∀p,iy P ops=some p→dq P G F call rnd ro ops T false p σ T (fun σ T=>Q .normal σ T D)→(Code.region id ops true).wpIn (cK r) 0 P (fun e a' w' =>∃g' σ' T' D',Q e σ' T' D' ∧Evo g w g' w' ∧RW g' T' w' ∧VRs g' w' σ' a'.tmps.toList∧a'.defers=D'.map (mk g')∧(∀id∈D',(g'.obj id).isSome=true)∧Fix ro g T w T' w') a w:=fun p hp h=>by
   unfold iy at hp
   split at hp
   ·rename_i pl hpl
    cases hk:(Region.noSelect ops&&Nat.beq pl.length ops.size&&jM ops pl (Array.replicate ops.size false)) with
    | false=>rw [hk] at hp;cases hp
    | true=>
     rw [hk] at hp
     simp only [Bool.and_eq_true] at hk
     obtain ⟨⟨hns,hlen⟩,hchk⟩:=hk
     have hlen:=Nat.eq_of_beq_eq_true hlen
     injection hp with hp;subst hp
     have e0:=Evo.of_gr rw0 (Gr.refl w).drew
     have f0:Fix (min ro T.objs.length) g T w T w.drew:=Fix.of_same (Same.of_gr rw0 (Gr.refl w).drew) List.take_length
     have r1:RW g T w.drew:=rw0.drew
     have key:=eO (r:=r) hc hrr hnd (Region.noSelect_spec hns) (Nat.min_le_left ro T.objs.length) (K:=fun σ T=>Q .normal σ T D) (gs:=g) (Ts:=T) (ws:=w) (ds:=a.defers)
      (QQ:=fun a' w' =>∃g' σ' T' D',Q .normal σ' T' D' ∧Evo g w g' w' ∧RW g' T' w' ∧VRs g' w' σ' a'.tmps.toList∧a'.defers=D'.map (mk g')∧(∀id∈D',(g'.obj id).isSome=true)∧Fix ro g T w T' w')
      (fun σ' T' g' w' a' hk e r' hσ' hd' hx=>⟨g',σ',T',D,hk,e,r',hσ',by rw [hd',hd,j4 e hD],eN e hD,hx.of_min⟩)
      pl (Array.replicate ops.size false) T false σ T hchk h g w.drew g w.drew a r1 (hG.mono e0) r1 (hσ.mono e0) rfl (Evo.refl _ _) (Same.refl _ _ _) List.take_length (fun _=>⟨rfl,rfl,rfl⟩) e0 f0 (Nat.min_le_right _ _)
      (fun k o _ hk=>absurd hk (by
       rw [Array.getD_eq_getD_getElem?,Array.getElem?_replicate]
       split<;>simp)) (by simp)
     rw [hlen] at key
     refine wpIn_mono (wpIn_region_any hm (rO _ _ _ _ key)) ?_
     intro e a' w' hq
     cases e<;>first | exact hq | exact hq.elim
   ·cases hp
  split at h
  ·rename_i p hp
   exact old p (wH hp) h
  ·split at h
   ·rename_i p hp
    obtain ⟨hns,st,hchk⟩:=p9 hp
    have e0:=Evo.of_gr rw0 (Gr.refl w).drew
    have f0:Fix (min ro T.objs.length) g T w T w.drew:=Fix.of_same (Same.of_gr rw0 (Gr.refl w).drew) List.take_length
    have r1:RW g T w.drew:=rw0.drew
    have key:=uH (r:=r) hc hrr st (K:=fun σ T=>Q .normal σ T D) (gs:=g) (Ts:=T) (ws:=w) (ds:=a.defers)
     (QQ:=fun a' w' =>∃g' σ' T' D',Q .normal σ' T' D' ∧Evo g w g' w' ∧RW g' T' w' ∧VRs g' w' σ' a'.tmps.toList∧a'.defers=D'.map (mk g')∧(∀id∈D',(g'.obj id).isSome=true)∧Fix ro g T w T' w')
     (fun σ' T' g' w' a' hk e r' hσ' hd' hx=>⟨g',σ',T',D,hk,e,r',hσ',by rw [hd',hd,j4 e hD],eN e hD,hx.of_min⟩)
     ops.size p (Array.replicate ops.size false) T [] σ T (Array.replicate ops.size false) g w.drew a (fun _=>none) hchk h (VInv.start (hσ.mono e0) r1) (hG.mono e0) rfl e0 f0 (Nat.min_le_right _ _) (by
      unfold ka
      rw [Array.toList_replicate]
      exact Nat.le_trans List.count_le_length (by simp))
    refine wpIn_mono (wpIn_region_any hm key) ?_
    intro e a' w' hq
    cases e<;>first | exact hq | exact hq.elim
   ·split at h
    ·rename_i p hp
     exact old p hp h
    ·split at h
     ·rename_i t p hl hp
      obtain ⟨ys,hys⟩:=List.getLast?_eq_some_iff.1 hl
      obtain rfl:ops=ys.toArray.push t:=by
       have:=congrArg List.toArray hys
       simpa using this
      have hcut:(ys.toArray.push t).toList.dropLast.toArray=ys.toArray:=by simp
      rw [hcut] at hp h
      cases hb2:(t.guard.isNone&&Nat.beq (cZ t.after.toList) (2^ys.toArray.size-1)) with
      | false=>rw [hb2] at h;exact h.elim
      | true=>
       rw [hb2] at h
       simp only [cond_true] at h
       simp only [Bool.and_eq_true] at hb2
       obtain ⟨hgd,hlast⟩:=hb2
       obtain ⟨hns,st,hchk⟩:=p9 hp
       have e0:=Evo.of_gr rw0 (Gr.refl w).drew
       have f0:Fix (min ro T.objs.length) g T w T w.drew:=Fix.of_same (Same.of_gr rw0 (Gr.refl w).drew) List.take_length
       have r1:RW g T w.drew:=rw0.drew
       have key:=uH (r:=r) hc hrr st (K:=fun σ' T' =>mT P G F call rnd (min ro T.objs.length) t σ' T' fun σ T=>Q .normal σ T D) (gs:=g) (Ts:=T) (ws:=w) (ds:=a.defers)
        (QQ:=fun a' w' =>wpOpIn (cK r) 0 P (ys.toArray.push t) (eb fun a' w' =>∃g' σ' T' D',Q .normal σ' T' D' ∧Evo g w g' w' ∧RW g' T' w' ∧VRs g' w' σ' a'.tmps.toList∧a'.defers=D'.map (mk g')∧(∀id∈D',(g'.obj id).isSome=true)∧Fix ro g T w T' w') ys.toArray.size
         (fun a' w' =>∃g' σ' T' D',Q .normal σ' T' D' ∧Evo g w g' w' ∧RW g' T' w' ∧VRs g' w' σ' a'.tmps.toList∧a'.defers=D'.map (mk g')∧(∀id∈D',(g'.obj id).isSome=true)∧Fix ro g T w T' w') a' w')
        (fun σ' T' g' w' a' hk e r' hσ' hd' hx=>by
         unfold wpOpIn
         have hw:Region.wanted t (yielded (ys.toArray.push t) a'.tmps)=true:=by
          unfold Region.wanted
          rw [Option.isNone_iff_eq_none.1 hgd]
         simp only [Array.getElem?_push,if_true,hw]
         exact jP hc hrr hk r g' w' a' _ _ r' (hG.mono e) hσ' fun σ'' T'' g'' w'' a'' _ hk' e' r'' hσ'' hd'' hx' =>⟨g'',σ'',T'',D,hk',e.trans e',r'',hσ'',by rw [hd'',hd',hd,j4 (e.trans e') hD],eN (e.trans e') hD,(hx.trans e hx').of_min⟩)
        ys.toArray.size p (Array.replicate ys.toArray.size false) T [] σ T (Array.replicate ys.toArray.size false) g w.drew a (fun _=>none) hchk h (VInv.start (hσ.mono e0) r1) (hG.mono e0) rfl e0 f0 (Nat.min_le_right _ _) (by
         unfold ka
         rw [Array.toList_replicate]
         exact Nat.le_trans List.count_le_length (by simp))
       have key2:=AZ st.flow (CM hlast) _ _ _ _ (by simp) key
       refine wpIn_mono (wpIn_region_any hm (by rw [Array.size_push,tH];exact key2)) ?_
       intro e a' w' hq
       cases e<;>first | exact hq | exact hq.elim
     ·exact h.elim
theorem VWx.here {rd:Option Nat} {ro:Nat} {c:Code} {σ:List TV} {T:VT} {D:List Nat} {Q:KX} {e:Exit} (h:Q e σ T D) (k:∀(F:Fence) (a:Act) w,∀R:Exit→Act→World→Prop,R e a w→c.wpIn F 0 P R a w):VWx P G rd ro c σ T D Q:=
 fun r g w a rw0 hG hσ hd hD _=>k _ a w _ ⟨g,σ,T,D,h,Evo.refl g w,rw0,hσ,hd,hD,Fix.refl _ _ _ _⟩
theorem VWx.seq {rd:Option Nat} {ro:Nat} {x y:Code} {σ:List TV} {T:VT} {D:List Nat} {Q:KX} (h:VWx P G rd ro x σ T D (mW (fun σ T D=>VWx P G rd ro y σ T D Q) Q)):VWx P G rd ro (.seq x y) σ T D Q:=by
 intro r g w a rw0 hG hσ hd hD hrd
 refine wpIn_seq (wpIn_mono (h r g w a rw0 hG hσ hd hD hrd) ?_)
 rintro e a' w' ⟨g',σ',T',D',hq,e1,r',hσ',hd',hD',hx⟩
 cases e<;>first
  | exact ⟨g',σ',T',D',hq,e1,r',hσ',hd',hD',hx⟩
  | exact wpIn_mono (hq r g' w' a' r' (hG.mono e1) hσ' hd' hD' (wi e1 hrd)) fun e a'' w'' ⟨g'',σ'',T'',D'',hq',e2,r2,s2,d2,dd2,x2⟩=>⟨g'',σ'',T'',D'',hq',e1.trans e2,r2,s2,d2,dd2,hx.trans e1 x2⟩
theorem VWx.block {rd:Option Nat} {ro id:Nat} {c:Code} {σ:List TV} {T:VT} {D:List Nat} {Q:KX} (h:VWx P G rd ro c σ T D (oq id Q)):VWx P G rd ro (.block id c) σ T D Q:=by
 intro r g w a rw0 hG hσ hd hD hrd
 refine wpIn_block (wpIn_mono (h r g w a rw0 hG hσ hd hD hrd) ?_)
 rintro e a' w' ⟨g',σ',T',D',hq,h⟩
 cases e with
 | exit id' =>
  simp only [Exit.inBlock]
  simp only [oq] at hq
  cases hb:Nat.beq id' id with
  | true=>
   rw [hb] at hq
   rw [if_pos (Nat.eq_of_beq_eq_true hb)];exact ⟨g',σ',T',D',hq,h⟩
  | false=>
   rw [hb] at hq
   rw [if_neg (Nat.ne_of_beq_eq_false hb)];exact ⟨g',σ',T',D',hq,h⟩
 | normal=>exact ⟨g',σ',T',D',hq,h⟩
 | goto l=>exact ⟨g',σ',T',D',hq,h⟩
 | ret=>exact ⟨g',σ',T',D',hq,h⟩
 | panic ch=>exact ⟨g',σ',T',D',hq,h⟩
 | outgrown=>exact ⟨g',σ',T',D',hq,h⟩
theorem VWx.cond {rd:Option Nat} {ro:Nat} {c:Operand} {x y:Code} {σ:List TV} {T:VT} {D:List Nat} {Q:KX} {b:Bool} (hc:aT G σ c= .val (.bool b)) (ht:b=true→VWx P G rd ro x σ T D Q) (hf:b=false→VWx P G rd ro y σ T D Q):VWx P G rd ro (.cond c x y) σ T D Q:=by
 intro r g w a rw0 hG hσ hd hD hrd
 have h1:=du hG hσ c
 rw [hc] at h1
 exact wpIn_cond_split h1.val_inv (fun h=>ht h r g w a rw0 hG hσ hd hD hrd) (fun h=>hf h r g w a rw0 hG hσ hd hD hrd)
section
variable {b:Frame} {a:Act} {k:List Item} {cs:List Frame} {w:World}
theorem fh {c:Code}:step P (lone (b.atR a (.code (.scope c)::k)) cs w)= .next (lone (b.atR a (.code c:: .inScope c::k)) cs w):=
 step_lone_go (by simp [stepG,stepG.exec,Frame.atR])
theorem vt {c:Code}:step P (lone (b.atR a (.inScope c::k)) cs w)= .next (lone (b.atR a k) cs w):=
 step_lone_go (by simp [stepG,stepG.exec,Frame.atR])
end
def JP (Q:Exit→Act→World→Prop):Exit→Act→World→Prop
 | .goto _,_,_=>False
 | e,a,w=>Q e a w
theorem nQ {F:Fence} {n:Nat} {Q:Exit→Act→World→Prop} {a:Act} {w:World} {c:Code} (h:c.wpIn F n P (JP Q) a w):(Code.scope c).wpIn F n P Q a w:=by
 intro b k cs hro hb hr
 have h0:(lone (b.atR a (.code (.scope c)::k)) cs w).fenced P F:=fenced_calm hb hr rfl
 obtain ⟨e,a₁,w₁,hq,harr⟩:=h b (.inScope c::k) cs hro hb hr
 cases e with
 | normal=>exact ⟨.normal,a₁,w₁,hq, .head h0 fh (StepsIn.trans harr (.one (fenced_calm hb hr rfl) vt))⟩
 | exit id=>
  have hx:exitTo id (.inScope c::k)=exitTo id k:=by simp [exitTo]
  exact ⟨.exit id,a₁,w₁,hq,fun k' hk=> .head h0 fh (harr.1 k' (by rw [hx];exact hk)),
   fun hr' hk=>let ⟨k₁,h1,h2⟩:=harr.2 hr' (by rw [hx];exact hk);⟨k₁,h1, .head h0 fh h2⟩⟩
 | goto l=>exact hq.elim
 | ret=>exact ⟨_,a₁,w₁,hq, .of_steps (.one h0 fh) harr⟩
 | panic ch=>exact ⟨_,a₁,w₁,hq, .of_steps (.one h0 fh) harr⟩
 | outgrown=>exact ⟨_,a₁,w₁,hq, .of_steps (.one h0 fh) harr⟩
theorem VWx.scope {rd:Option Nat} {ro:Nat} {c:Code} {σ:List TV} {T:VT} {D:List Nat} {Q:KX} (h:VWx P G rd ro c σ T D (Cx Q)):VWx P G rd ro (.scope c) σ T D Q:=by
 intro r g w a rw0 hG hσ hd hD hrd
 refine nQ (wpIn_mono (h r g w a rw0 hG hσ hd hD hrd) ?_)
 rintro e a' w' ⟨g',σ',T',D',hq,h⟩
 cases e<;>first
  | exact ⟨g',σ',T',D',hq,h⟩
  | exact hq.elim
theorem VWx.loop {rd:Option Nat} {ro:Nat} {c:Code} {σ:List TV} {T:VT} {D:List Nat} {Q:KX} (I:Nat→List TV→VT→List Nat→Prop) (n:Nat) (h0:I n σ T D)
  (round:∀n σ T D,I n σ T D→VWx P G rd ro c σ T D (mW (fun σ' T' D' =>∃n',n' <n∧I n' σ' T' D') Q)):VWx P G rd ro (.loop c) σ T D Q:=by
 intro r g w a rw0 hG hσ hd hD hrd
 refine wpIn_loop_ghost (fun n a' w' =>∃g' σ' T' D',I n σ' T' D' ∧Evo g w g' w' ∧RW g' T' w' ∧VRs g' w' σ' a'.tmps.toList∧a'.defers=D'.map (mk g')∧(∀id∈D',(g'.obj id).isSome=true)∧Fix ro g T w T' w') n ⟨g,σ,T,D,h0,Evo.refl _ _,rw0,hσ,hd,hD,Fix.refl _ _ _ _⟩ ?_
 rintro m a' w' ⟨g',σ',T',D',hI,e1,r',hσ',hd',hD',hx⟩
 refine wpIn_mono (round m σ' T' D' hI r g' w' a' r' (hG.mono e1) hσ' hd' hD' (wi e1 hrd)) ?_
 rintro e a'' w'' ⟨g'',σ'',T'',D'',hq,e2,r2,s2,d2,dd2,x2⟩
 cases e<;>first
  | exact ⟨g'',σ'',T'',D'',hq,e1.trans e2,r2,s2,d2,dd2,hx.trans e1 x2⟩
  | (obtain ⟨n',hn,hI'⟩:=hq;exact ⟨n',hn,g'',σ'',T'',D'',hI',e1.trans e2,r2,s2,d2,dd2,hx.trans e1 x2⟩)
theorem hU {g:Gh} {T:VT} {w:World} (r:RW g T w) {id b:Nat} {st:LoopState} {pend:Option Code} {σ:List TV} {ps:Array Tmp} {asg body:Code} (ho:T.objs[id]?=some (.loop st pend σ ps asg body)) (hb:g.obj id=some b):
  ∃rec:Loop,w.heap[b]?=some (.loop rec)∧rec.state=st∧rec.pending=pend∧rec.params=ps∧rec.assign=asg∧rec.body=body∧VRs g w σ rec.tmps.toList∧
   ∀st' pend',RW g (T.setLoop id st' pend' σ ps asg body) (w.putObj b (.loop {rec with state:=st',pending:=pend' }))∧Evo g w g (w.putObj b (.loop {rec with state:=st',pending:=pend' }))∧
    ∀ro,ro≤id→Fix ro g T w (T.setLoop id st' pend' σ ps asg body) (w.putObj b (.loop {rec with state:=st',pending:=pend' })):=by
 obtain ⟨b',h1,h2,h3,h4⟩:=r.obj id _ ho rfl
 rw [hb] at h1;injection h1 with h1;subst h1
 obtain ⟨us,fn,db,h5,h6⟩:=h2
 have hlt:=(Array.getElem?_eq_some_iff.1 h5).1
 refine ⟨_,h5,rfl,rfl,rfl,rfl,rfl,h6,fun st' pend' => ?_⟩
 have hnew:=World.putObj_heap_same (w:=w) (o:= .loop {state:=st',pending:=pend',fn:=fn,tmps:=us.toArray,params:=ps,assign:=asg,body:=body,defers:=db}) hlt
 have hoth:∀c,c≠b→(w.putObj b (.loop {state:=st',pending:=pend',fn:=fn,tmps:=us.toArray,params:=ps,assign:=asg,body:=body,defers:=db})).heap[c]?=w.heap[c]?:=fun c hc=>World.putObj_heap_other hc
 have key:∀(hE:∀w',w' =w.putObj b (.loop {state:=st',pending:=pend',fn:=fn,tmps:=us.toArray,params:=ps,assign:=asg,body:=body,defers:=db})→Evo g w g w'),RW g (T.setLoop id st' pend' σ ps asg body) (w.putObj b (.loop {state:=st',pending:=pend',fn:=fn,tmps:=us.toArray,params:=ps,assign:=asg,body:=body,defers:=db}))∧Evo g w g (w.putObj b (.loop {state:=st',pending:=pend',fn:=fn,tmps:=us.toArray,params:=ps,assign:=asg,body:=body,defers:=db})):=fun hE=>
  r.setObj (o' := .loop st' pend' σ ps asg body) ho rfl hb ⟨rfl,rfl,rfl⟩ World.putObj_size hoth (by unfold bB;rw [hnew,h5]) fun _=>⟨us,fn,db,hnew,h6.mono (hE _ rfl)⟩
 have hE:=(r.setObj (o' := .gone) ho rfl hb (w' :=w.putObj b (.loop {state:=st',pending:=pend',fn:=fn,tmps:=us.toArray,params:=ps,assign:=asg,body:=body,defers:=db})) ⟨rfl,rfl,rfl⟩ World.putObj_size hoth (by unfold bB;rw [hnew,h5]) fun h=>by cases h).2
 obtain ⟨k1,k2⟩:=key fun w' hw=>by rw [hw];exact hE
 exact ⟨k1,k2,fun ro hr=>di r ho rfl hb hr hoth⟩
theorem oA {fn:Func} {ro:Nat} {σ:List TV} {K:TV→VT→Prop} {tmps:Array Value} {g0:Gh} {T0:VT} {w0:World}:∀(D:List Nat) (T T' :VT) (g:Gh) (w:World) (x:TV),mj ro D T=some T' →jX P T' σ fn.results=some x→K x T' →
  RW g T w→VRs g w σ tmps.toList→Evo g0 w0 g w→Fix ro g0 T0 w0 T w→
  LeavesInM (cK none) 0 P fn tmps (fun e w' =>∃v x g' T',e= .returned v∧K x T' ∧Evo g0 w0 g' w' ∧RW g' T' w' ∧VR g' w' x v∧Fix ro g0 T0 w0 T' w') (D.map (mk g)) .returning w
 | [],T,T',g,w,x,h,hr,hk,r,hσ,e,hx=>by
  simp only [mj] at h
  injection h with h;subst h
  obtain ⟨v,h1,h2⟩:=yh (a:={tmps:=tmps,defers:= []}) r hσ hr
  exact ⟨v,h2,v,x,g,T,rfl,hk,e,r,h1,hx⟩
 | id::D,T,T',g,w,x,h,hr,hk,r,hσ,e,hx=>by
  simp only [mj] at h
  split at h
  ·rename_i ho
   cases hb:Nat.ble ro id with
   | false=>rw [hb] at h;cases h
   | true=>
    rw [hb] at h
    simp only [cond_true] at h
    obtain ⟨b,h1,h2,h3,h4⟩:=r.obj id _ ho rfl
    have hlt:=(Array.getElem?_eq_some_iff.1 h2).1
    have hnew:=World.putObj_heap_same (w:=w) (o:= .deferred none) hlt
    have hoth:∀c,c≠b→(w.putObj b (.deferred none)).heap[c]?=w.heap[c]?:=fun c hc=>World.putObj_heap_other hc
    obtain ⟨k1,k2⟩:=r.setObj (o' := .gone) ho rfl h1 (w' :=w.putObj b (.deferred none)) ⟨rfl,rfl,rfl⟩ World.putObj_size hoth (by unfold bB;rw [hnew,show w.heap[b]?=_ from h2]) fun h=>by cases h
    have k3:Fix ro g T w (T.kill id) (w.putObj b (.deferred none)):=di r ho rfl h1 (Nat.le_of_ble_eq_true hb) hoth
    refine ⟨fun h=>(by cases h), .inl ⟨b,w.putObj b (.deferred none),by simp [mk,h1],run_takeDeferred h2, ?_⟩⟩
    exact oA D (T.kill id) T' g _ x h hr hk k1 (hσ.mono k2) (e.trans k2) (hx.trans e k3)
  ·cases h
theorem uI {fn:Func} {ro:Nat} {K:TV→VT→Prop} {σ:List TV} {T:VT} {D:List Nat} (h:rV P fn ro σ T D K):∃T' x,mj ro D T=some T' ∧jX P T' σ fn.results=some x∧K x T' :=by
 unfold rV at h
 split at h
 ·rename_i T' hT
  split at h
  ·rename_i x hx;exact ⟨T',x,hT,hx,h⟩
  ·exact h.elim
 ·exact h.elim
theorem VCx.enter {ro:Nat} {f:FuncId} {fn:Func} {c:Code} {xs:List TV} {T:VT} {K:TV→VT→Prop} (hf:P.funcs[f]?=some fn) (hb:fn.body=some c)
    (h:VWx P G none ro c (wu fn xs) T [] (AO P fn ro K)):VCx P G ro f xs T K:=by
  intro g w us rw0 hG hx
  refine wh (r:=none) (n:=0) (callsIn_of_wp_marks hf hb trivial (wpIn_mono (h none g w _ rw0 hG ?_ rfl (fun _ h=>nomatch h) rfl) ?_))
  · have e1:(us.toArray++Array.replicate (fn.ntmps-us.toArray.size) undef).toList=us++(List.replicate (fn.ntmps-xs.length) undef):=by simp [hx.1]
    rw [e1]
    refine hx.app ?_
    have:=VRs.vals g w (List.replicate (fn.ntmps-xs.length) undef)
    simpa using this
  · rintro e a' w' ⟨g',σ',T',D',hq,e1,r',hσ',hd',hD',hx'⟩
    cases e with
    | normal=>
      obtain ⟨T'',x,h1,h2,h3⟩:=uI (P:=P) hq
      simp only [bodyPostM,hd']
      exact oA D' T' T'' g' w' x h1 h2 h3 r' hσ' e1 hx'
    | ret=>
      obtain ⟨T'',x,h1,h2,h3⟩:=uI (P:=P) hq
      simp only [bodyPostM,hd']
      exact oA D' T' T'' g' w' x h1 h2 h3 r' hσ' e1 hx'
    | exit id=>exact hq.elim
    | goto l=>exact hq.elim
    | panic ch=>exact hq.elim
    | outgrown=>exact hq.elim
def A0 (P:Program) (G:aK) (run:tF):Prop:=∀rd ro c σ T D K,run rd ro c σ T D K→VWx P G rd ro c σ T D K
theorem sa {g:Gh} {w:World}:∀(ps:List Tmp) (xs σ:List TV) (us tmps:List Value),VRs g w xs us→VRs g w σ tmps→VRs g w (jO ps xs σ) ((ps.zip us).foldl (fun t p=>t.set p.1 p.2) tmps)
 | [],xs,σ,us,tmps,hx,hσ=>by simpa [jO] using hσ
 | p::ps, [],σ,us,tmps,hx,hσ=>by
  have:us= []:=List.eq_nil_of_length_eq_zero hx.1
  subst this
  simpa [jO] using hσ
 | p::ps,x::xs,σ, [],tmps,hx,hσ=>by have:=hx.1;simp at this
 | p::ps,x::xs,σ,u::us,tmps,hx,hσ=>by
  simp only [jO,List.zip_cons_cons,List.foldl_cons]
  exact sa ps xs _ us _ ⟨by simpa using hx.1,fun j y v hy hv=>hx.2 (j+1) y v (by simpa using hy) (by simpa using hv)⟩ (hσ.set p (hx.2 0 x u rfl rfl))
theorem yr (ps:Array Tmp) (us:List Value) (tmps:Array Value):((ps.zip us.toArray).foldl (fun tmps (t,a)=>tmps.setIfInBounds t a) tmps).toList=(ps.toList.zip us).foldl (fun t p=>t.set p.1 p.2) tmps.toList:=by
 rw [←Array.foldl_toList]
 simp only [Array.toList_zip]
 generalize ps.toList.zip us=l
 induction l generalizing tmps with
 | nil=>rfl
 | cons p l ih=>simp only [List.foldl_cons];rw [ih];simp
theorem wI {ro id:Nat} {st:LoopState} {pend:Option Code} {T:VT} {K:VT→Prop} (h:gM ro id st pend T K):∃st0 pend0 σ ps asg body,T.objs[id]?=some (.loop st0 pend0 σ ps asg body)∧ro≤id∧K (T.setLoop id st pend σ ps asg body):=by
 unfold gM at h
 split at h
 ·rename_i st0 pend0 σ ps asg body ho
  cases hb:Nat.ble ro id with
  | false=>rw [hb] at h;exact h.elim
  | true=>rw [hb] at h;exact ⟨_,_,_,_,_,_,ho,Nat.le_of_ble_eq_true hb,h⟩
 ·exact h.elim
theorem CO {run:tF} (hrun:A0 P G run):gN P G (ot run):=by
 intro ro id xs T K h g w us rw0 hG hxs
 unfold ot at h
 split at h
 ·rename_i σ ps asg body ho
  cases hb:(Nat.ble ro id&&Nat.beq ps.size xs.length) with
  | false=>rw [hb] at h;exact h.elim
  | true=>
   rw [hb] at h
   simp only [Bool.and_eq_true] at hb
   obtain ⟨hro,hsz⟩:=hb
   have hro:=Nat.le_of_ble_eq_true hro
   have hsz:=Nat.eq_of_beq_eq_true hsz
   simp only [cond_true] at h
   obtain ⟨b,hgb,_⟩:=rw0.obj id _ ho rfl
   obtain ⟨rec,h1,h2,h3,h4,h5,h6,h7,_⟩:=hU rw0 ho hgb
   refine ⟨b,_,_,_,_,hgb,run_yield h1 (by rw [h4];simpa [hxs.1] using hsz.symm), ?_⟩
   rw [h4,h5,h6]
   refine roundIn_of_wpIn (F:=Fence.wide) trivial ?_
   refine wpIn_mono (hrun _ _ _ _ _ _ _ h (some b) g w {tmps:=_,defers:= []} rw0 hG ?_ rfl (fun _ h=>nomatch h) ⟨rfl,hgb⟩) ?_
   ·simp only
    rw [yr]
    exact sa _ _ _ _ _ hxs h7
   ·rintro e a' w' ⟨g',σ',T',D',hq,e1,r',hσ',hd',hD',hx'⟩
    cases e with
    | normal=>
     simp only at hq
     split at hq
     ·rename_i σ2 ps2 asg2 body2 ho2
      have hgb' :=e1.obj id b hgb
      obtain ⟨rec2,k1,k2,k3,k4,k5,k6,k7,k8⟩:=hU r' ho2 hgb'
      obtain ⟨m1,m2,m3⟩:=k8 .busy none
      have hrec:({rec2 with state:= .busy}:Loop)={rec2 with state:= .busy,pending:=none}:=by
       rw [←k3]
      refine ⟨_,run_beginRound k1 k2, ?_⟩
      rw [hrec]
      refine wpIn_mono (hrun _ _ _ _ _ _ _ hq (some b) g' _ a' m1 ((hG.mono e1).mono m2) (hσ'.mono m2) hd' hD' ⟨rfl,hgb'⟩) ?_
      have fx:=hx'.trans e1 (m3 ro hro)
      rintro e a2 w2 ⟨g2,σ2',T2,D2,hq2,e2,r2,hσ2,hd2,hD2,hx2⟩
      have hgb2:=e2.obj id b hgb'
      have ee:=(e1.trans m2).trans e2
      have ff:=fx.trans (e1.trans m2) hx2
      have fin:∀(st:LoopState) (pend:Option Code) (y:TV) (v:Value) (vd:VR g2 w2 y v),gM ro id st pend T2 (fun T=>K y T)→st=(if pend.isNone then .ready else .done)→v= .bool pend.isNone→
        ∃v' w',(Instr.endRound b pend).run P w2= .ok v' w' ∧∃v x g' T',(Ending.returned v' = .returned v)∧K x T' ∧Evo g w g' w' ∧RW g' T' w' ∧VR g' w' x v∧Fix ro g T w T' w' :=by
       intro st pend y v vd hv hst hvv
       obtain ⟨st0,pend0,σ3,ps3,asg3,body3,n1,n2,n3⟩:=wI hv
       obtain ⟨rec3,p1,p2,p3,p4,p5,p6,p7,p8⟩:=hU r2 n1 hgb2
       obtain ⟨q1,q2,q3⟩:=p8 st pend
       refine ⟨_,_,run_endRound pend p1,v,y,g2,_,by rw [hvv],n3, ?_⟩
       rw [←hst]
       exact ⟨ee.trans q2,q1,vd.mono q2,ff.trans ee (q3 ro hro)⟩
      cases e with
      | normal=>exact fin .ready none _ _ (.val (.bool true)) hq2 rfl rfl
      | ret=>exact fin .done (some .ret) _ _ (.val (.bool false)) hq2 rfl rfl
      | exit i=>exact fin .done (some (.exit i)) _ _ (.val (.bool false)) hq2 rfl rfl
      | goto l=>exact hq2.elim
      | panic ch=>exact hq2.elim
      | outgrown=>exact hq2.elim
     ·exact hq.elim
    | ret=>exact hq.elim
    | exit i=>exact hq.elim
    | goto l=>exact hq.elim
    | panic ch=>exact hq.elim
    | outgrown=>exact hq.elim
 ·exact h.elim
theorem wJ {ro id:Nat} {σ:List TV} {D:List Nat} {K:KX} {T:VT} (h:fC ro id σ D K T):∃st pend σ' ps asg body e,T.objs[id]?=some (.loop st pend σ' ps asg body)∧ro≤id∧K e σ (T.setLoop id .exhausted pend σ' ps asg body) D∧st≠ .busy∧
  ((pend=none∧e= .normal)∨(pend=some .ret∧e= .ret)∨∃x,pend=some (.exit x)∧e= .exit x):=by
 unfold fC at h
 split at h
 ·rename_i ho
  cases hb:Nat.ble ro id with
  | false=>rw [hb] at h;exact h.elim
  | true=>rw [hb] at h;exact ⟨_,_,_,_,_,_,_,ho,Nat.le_of_ble_eq_true hb,h,(fun h=>by cases h), .inl ⟨rfl,rfl⟩⟩
 ·rename_i ho
  cases hb:Nat.ble ro id with
  | false=>rw [hb] at h;exact h.elim
  | true=>rw [hb] at h;exact ⟨_,_,_,_,_,_,_,ho,Nat.le_of_ble_eq_true hb,h,(fun h=>by cases h), .inr (.inl ⟨rfl,rfl⟩)⟩
 ·rename_i ho
  cases hb:Nat.ble ro id with
  | false=>rw [hb] at h;exact h.elim
  | true=>rw [hb] at h;exact ⟨_,_,_,_,_,_,_,ho,Nat.le_of_ble_eq_true hb,h,(fun h=>by cases h), .inr (.inr ⟨_,rfl,rfl⟩)⟩
 ·exact h.elim
theorem oB {r:Option Nat} {ro id b:Nat} {σ:List TV} {D:List Nat} {K:KX} {T' :VT} (h:fC ro id σ D K T') {g0:Gh} {T0:VT} {w0:World} {g' :Gh} {w' :World} {a' :Act} (r' :RW g' T' w') (hb:g'.obj id=some b) (e1:Evo g0 w0 g' w') (hx:Fix ro g0 T0 w0 T' w')
  (hσ:VRs g' w' σ a'.tmps.toList) (hd:a'.defers=D.map (mk g')) (hD:∀id∈D,(g'.obj id).isSome=true) (v:Value):
  rangePost (cK r) 0 P b (fun e a' w' =>∃g' σ' T' D',K e σ' T' D' ∧Evo g0 w0 g' w' ∧RW g' T' w' ∧VRs g' w' σ' a'.tmps.toList∧a'.defers=D'.map (mk g')∧(∀id∈D',(g'.obj id).isSome=true)∧Fix ro g0 T0 w0 T' w') a' (.returned v) w' :=by
 obtain ⟨st,pend,σ',ps,asg,body,e,n1,n2,n3,n4,n5⟩:=wJ h
 obtain ⟨rec3,p1,p2,p3,p4,p5,p6,p7,p8⟩:=hU r' n1 hb
 obtain ⟨q1,q2,q3⟩:=p8 .exhausted pend
 have hrec:({rec3 with state:= .exhausted}:Loop)={rec3 with state:= .exhausted,pending:=pend}:=by rw [←p3]
 refine ⟨_,_,run_endLoop p1 (by rw [p2];exact n4), ?_⟩
 rw [hrec,p3]
 have fin:∃g'' σ'' T'' D'',K e σ'' T'' D'' ∧Evo g0 w0 g'' (w'.putObj b (.loop {rec3 with state:= .exhausted,pending:=pend}))∧RW g'' T'' (w'.putObj b (.loop {rec3 with state:= .exhausted,pending:=pend}))∧VRs g'' (w'.putObj b (.loop {rec3 with state:= .exhausted,pending:=pend})) σ'' a'.tmps.toList∧a'.defers=D''.map (mk g'')∧(∀id∈D'',(g''.obj id).isSome=true)∧Fix ro g0 T0 w0 T'' (w'.putObj b (.loop {rec3 with state:= .exhausted,pending:=pend})):=
  ⟨g',σ,_,D,n3,e1.trans q2,q1,hσ.mono q2,hd,hD,hx.trans e1 (q3 ro n2)⟩
 rcases n5 with ⟨rfl,rfl⟩ | ⟨rfl,rfl⟩ | ⟨x,rfl,rfl⟩
 ·exact fin
 ·exact wpIn_ret fin
 ·exact wpIn_exit fin
theorem wK {α:Type} (l m:List α):(l++m).take l.length=l:=by simp
theorem yS (us vs:List Value) (y:Value):(us.toArray++ #[y])++vs.toArray=(us++ [y]++vs).toArray:=by simp
theorem qb {a:Act} {f:Operand} {l:Nat} {fi:FuncId} {us vs:List Value} (h:a.eval f= .func (.func fi) us.toArray vs.toArray) (w:World):
  (resolve a.eval (rangeCall f l) 0).run P w= .ok {target:= .fn (.func fi) vs.toArray,args:=us.toArray++ #[.func (.yield l) #[] #[]]} w:=by
 have hc:a.eval (.const (.func (.yield l) #[] #[]))= .func (.yield l) #[] #[]:=rfl
 simp [resolve,h,hc,Deferred.ofValue]
theorem sb {fi:FuncId} {fn:Func} {args vs:Array Value} (hfn:P.funcs[fi]?=some fn) (hb:fn.body.isSome=true) (hnm:(fn.name== "runtime.NumGoroutine")=false) (w:World):
  (invoke (.fn (.func fi) vs) args).run P w= .ok (.enter fi (args++vs)) w:=by
 have hb' :fn.body≠none:=by intro h;rw [h] at hb;cases hb
 have hnm' :fn.name≠ "runtime.NumGoroutine" :=by simpa using hnm
 simp [invoke,callFunc,hfn,hnm',hb']
theorem VWx.range0 {ro:Nat} {f:Operand} {ps:Array Tmp} {asg body:Code} {σ:List TV} {T:VT} {D:List Nat} {K:KX} {fi:FuncId} {fn:Func} {first ca:List TV} (hf:aT G σ f= .fn (.func fi) first ca)
  (hfn:P.funcs[fi]?=some fn) (hb:fn.body.isSome=true) (hnm:(fn.name== "runtime.NumGoroutine")=false)
  (hc:VCx P G ro fi (first++ [.yld (T.objs.length+1)]++ca) {T with objs:=T.objs++ [.defd]++ [.loop .ready none σ ps asg body]} fun _ T' =>fC ro (T.objs.length+1) σ (T.objs.length::D) K T'):
  VWx P G none ro (.rangeFunc f ps asg body) σ T D K:=by
 intro r g w a rw0 hG hσ hd hD hrd
 have hrd:r=none:=hrd
 subst hrd
 have hv:=du hG hσ f
 rw [hf] at hv
 obtain ⟨us,vs,h2,h3,h4⟩:=hv.fn_inv
 refine wpIn_rangeFunc fun fd _=> ?_
 obtain ⟨g1,r1,e1,ho1,_⟩:=rw0.new (.deferred (some [])) (o:= .defd) rfl (World.alloc_heap_new _ _)
 have hE:=Evo.of_gr r1 ((Gr.refl (w.alloc (.deferred (some [])))).alloc (.loop {state:= .ready,pending:=none,fn:=fd,tmps:=a.tmps,params:=ps,assign:=asg,body:=body,defers:=w.heap.size}))
 obtain ⟨g2,r2,e2,ho2,_⟩:=r1.new (.loop {state:= .ready,pending:=none,fn:=fd,tmps:=a.tmps,params:=ps,assign:=asg,body:=body,defers:=w.heap.size}) (o:= .loop .ready none σ ps asg body) rfl
  ⟨a.tmps.toList,fd,w.heap.size,World.alloc_heap_new _ _,hσ.mono (e1.trans hE)⟩
 have ee:=e1.trans e2
 have hl:(w.alloc (.deferred (some []))).heap.size=w.heap.size+1:=World.size_alloc ..
 have hl2:({T with objs:=T.objs++ [.defd]}:VT).objs.length=T.objs.length+1:=by simp
 rw [hl,hl2] at ho2
 have ho1' :=e2.obj _ _ ho1
 have f1:Fix ro g T w {T with objs:=T.objs++ [.defd]++ [.loop .ready none σ ps asg body]} ((w.alloc (.deferred (some []))).alloc (.loop {state:= .ready,pending:=none,fn:=fd,tmps:=a.tmps,params:=ps,assign:=asg,body:=body,defers:=w.heap.size})):=
  Fix.of_same (Same.of_gr rw0 (((Gr.refl w).alloc _).alloc _)) (by simp only [List.append_assoc];exact wK _ _)
 refine ⟨w.heap.size+1, [{target:= .collected w.heap.size,args:= #[]}],_,_,_,fi,_,_,run_enterLoop_outer fd a.tmps ps asg body,qb h2 _,fun _ _=>trivial,sb hfn hb hnm _,fun h=>(by cases h), ?_⟩
 have hargs:VRs g2 _ (first++ [.yld (T.objs.length+1)]++ca) (us++ [.func (.yield (w.heap.size+1)) #[] #[]]++vs):=((h3.mono ee).app (VRs.cons (.yld ho2) (VRs.nil _ _))).app (h4.mono ee)
 have hcall:=hc g2 _ _ r2 (hG.mono ee) hargs
 have ha:(us.toArray++ #[Value.func (.yield (w.heap.size+1)) #[] #[]])++vs.toArray=(us++ [Value.func (.yield (w.heap.size+1)) #[] #[]]++vs).toArray:=yS us vs _
 rw [ha]
 refine lK (Calls.mono hcall ?_)
 rintro e w' ⟨v,x,g',T',rfl,hq,e3,r',hv,hx⟩
 have eE:=ee.trans e3
 refine oB (a' :={tmps:=a.tmps,defers:= [{target:= .collected w.heap.size,args:= #[]}]++a.defers}) hq r' (e3.obj _ _ ho2) eE (f1.trans ee hx) (hσ.mono eE) ?_ ?_ v
 ·show [_]++a.defers=_
  rw [hd,List.map_cons,j4 eE hD]
  simp [mk,e3.obj _ _ ho1']
 ·intro id hid
  rcases List.mem_cons.1 hid with rfl | hid
  ·rw [e3.obj _ _ ho1'];rfl
  ·exact eN eE hD id hid
theorem VWx.range1 {i0 ro:Nat} {f:Operand} {ps:Array Tmp} {asg body:Code} {σ:List TV} {T:VT} {D:List Nat} {K:KX} {fi:FuncId} {fn:Func} {first ca:List TV} {st0:LoopState} {pend0:Option Code} {σ0:List TV} {ps0:Array Tmp} {asg0 body0:Code}
  (hf:aT G σ f= .fn (.func fi) first ca) (hlp:T.objs[i0]?=some (.loop st0 pend0 σ0 ps0 asg0 body0))
  (hfn:P.funcs[fi]?=some fn) (hb:fn.body.isSome=true) (hnm:(fn.name== "runtime.NumGoroutine")=false)
  (hc:VCx P G ro fi (first++ [.yld T.objs.length]++ca) {T with objs:=T.objs++ [.loop .ready none σ ps asg body]} fun _ T' =>fC ro T.objs.length σ D K T'):
  VWx P G (some i0) ro (.rangeFunc f ps asg body) σ T D K:=by
 intro r g w a rw0 hG hσ hd hD hrd
 obtain ⟨hr1,hr2⟩:=hrd
 obtain ⟨b0,rfl⟩:=Option.isSome_iff_exists.1 hr1
 obtain ⟨rec0,k1,_⟩:=hU rw0 hlp hr2
 have hv:=du hG hσ f
 rw [hf] at hv
 obtain ⟨us,vs,h2,h3,h4⟩:=hv.fn_inv
 refine wpIn_rangeFunc fun fd _=> ?_
 have hE:=Evo.of_gr rw0 ((Gr.refl w).alloc (.loop {state:= .ready,pending:=none,fn:=fd,tmps:=a.tmps,params:=ps,assign:=asg,body:=body,defers:=rec0.defers}))
 obtain ⟨g2,r2,ee,ho2,_⟩:=rw0.new (.loop {state:= .ready,pending:=none,fn:=fd,tmps:=a.tmps,params:=ps,assign:=asg,body:=body,defers:=rec0.defers}) (o:= .loop .ready none σ ps asg body) rfl
  ⟨a.tmps.toList,fd,rec0.defers,World.alloc_heap_new _ _,hσ.mono hE⟩
 have f1:Fix ro g T w {T with objs:=T.objs++ [.loop .ready none σ ps asg body]} (w.alloc (.loop {state:= .ready,pending:=none,fn:=fd,tmps:=a.tmps,params:=ps,assign:=asg,body:=body,defers:=rec0.defers})):=
  Fix.of_same (Same.of_gr rw0 ((Gr.refl w).alloc _)) (wK _ _)
 refine ⟨w.heap.size, [],_,_,_,fi,_,_,run_enterLoop_inner k1 fd a.tmps ps asg body,qb h2 _,fun _ _=>trivial,sb hfn hb hnm _,fun h=>(by cases h), ?_⟩
 have hargs:VRs g2 _ (first++ [.yld T.objs.length]++ca) (us++ [.func (.yield w.heap.size) #[] #[]]++vs):=((h3.mono ee).app (VRs.cons (.yld ho2) (VRs.nil _ _))).app (h4.mono ee)
 have hcall:=hc g2 _ _ r2 (hG.mono ee) hargs
 have ha:(us.toArray++ #[Value.func (.yield w.heap.size) #[] #[]])++vs.toArray=(us++ [Value.func (.yield w.heap.size) #[] #[]]++vs).toArray:=yS us vs _
 rw [ha]
 refine lK (Calls.mono hcall ?_)
 rintro e w' ⟨v,x,g',T',rfl,hq,e3,r',hv,hx⟩
 have eE:=ee.trans e3
 refine oB (a' :={tmps:=a.tmps,defers:= []++a.defers}) hq r' (e3.obj _ _ ho2) eE (f1.trans ee hx) (hσ.mono eE) ?_ (eN eE hD) v
 show []++a.defers=_
 rw [hd,j4 eE hD];rfl
def aQ (P:Program) (G:aK) (C:FuncId→Option aM):Prop:=∀f W,C f=some W→∀ro xs T K,W ro xs T K→VCx P G ro f xs T K
def iE (P:Program):Bool:=P.funcs.toList.all fun fn=> !fn.body.isSome || !(fn.name== "runtime.NumGoroutine")
theorem CP {C:FuncId→Option aM} (hB:iE P=true) (hC:aQ P G C) {run:tF} (hrun:A0 P G run):fD P G (iA P C run):=by
 intro ro f xs T K h
 unfold iA at h
 split at h
 ·rename_i fn hf
  split at h
  ·rename_i c hc
   have hnm:(fn.name== "runtime.NumGoroutine")=false:=by
    have hmem:fn∈P.funcs.toList:=by
     obtain ⟨hlt,he⟩:=Array.getElem?_eq_some_iff.1 hf
     rw [←he];exact Array.mem_toList_iff.2 (Array.getElem_mem hlt)
    have:=List.all_eq_true.1 hB fn hmem
    simpa [hc] using this
   refine ⟨fn,hf,by rw [hc];rfl,hnm, ?_⟩
   split at h
   ·rename_i W hW
    exact hC f W hW ro xs T K h
   ·exact VCx.enter hf hc (hrun _ _ _ _ _ _ _ h)
  ·exact h.elim
 ·exact h.elim
def eP (P:Program) (G:aK) (L:Nat→Option (br × Code)):Prop:=∀id W c,L id=some (W,c)→∀rd ro σ T D K,W rd ro σ T D K→VWx P G rd ro c σ T D K
theorem ah:eP P G fun _=>none:=fun _ _ _ h=>by cases h
theorem vz {C:FuncId→Option aM} (hm:P.follows .mixedOrders=true) (hB:iE P=true) (hC:aQ P G C):
  ∀n m,m≤n→∀F L,eP P G L→A0 P G (vx P G C F m L)
 | _,0,_,_,_,_,_,_,_,_,_,_,_,h=>by simp only [vx] at h;exact h.elim
 | 0,m+1,hle,_,_,_,_,_,_,_,_,_,_,_=>by omega
 | n+1,m+1,hle,F,L,hL,rd,ro,c,σ,T,D,K,h=>by
  have ih:=fun m hm0=>vz hm hB hC n m hm0 F L hL
  have ih0:=fun m hm0=>vz hm hB hC n m hm0 aY (fun _=>none) ah
  have hcal:fD P G (iA P C (vx P G C aY m fun _=>none)):=CP hB hC (ih0 m (by omega))
  have hrnd:gN P G (ot (vx P G C aY m fun _=>none)):=CO (ih0 m (by omega))
  unfold vx at h
  cases c with
  | skip=>exact VWx.here (e:= .normal) h fun F a w R hr=>wpIn_skip hr
  | exit id=>exact VWx.here (e:= .exit id) h fun F a w R hr=>wpIn_exit hr
  | ret=>exact VWx.here (e:= .ret) h fun F a w R hr=>wpIn_ret hr
  | seq a b=>
   refine VWx.seq ((ih m (by omega) _ _ _ _ _ _ _ h).mono fun e σ T D hq=> ?_)
   cases e<;>first
    | exact ih m (by omega) _ _ _ _ _ _ _ hq
    | exact hq
  | cond c x y=>
   simp only at h
   split at h
   ·rename_i b hb
    refine VWx.cond hb (fun hbt=> ?_) (fun hbf=> ?_)
    ·subst hbt;exact ih m (by omega) _ _ _ _ _ _ _ h
    ·subst hbf;exact ih m (by omega) _ _ _ _ _ _ _ h
   ·exact h.elim
  | block id c=>
   simp only at h
   split at h
   ·rename_i W c' hW
    obtain ⟨rfl,h⟩:=h
    exact hL _ _ _ hW rd ro σ T D K h
   ·exact VWx.block (ih m (by omega) _ _ _ _ _ _ _ h)
  | scope c=>exact VWx.scope (ih m (by omega) _ _ _ _ _ _ _ h)
  | loop c=>
   refine VWx.loop (fun k σ T D=>k≤m+1∧vx P G C F k L rd ro (.loop c) σ T D K) (m+1) ⟨Nat.le_refl _,by unfold vx;exact h⟩ ?_
   rintro k σ T D ⟨hk,h⟩
   cases k with
   | zero=>simp only [vx] at h;exact h.elim
   | succ j=>
    unfold vx at h
    refine (ih j (by omega) _ _ _ _ _ _ _ h).mono fun e σ T D hq=> ?_
    cases e<;>first
     | exact ⟨j,by omega,by omega,hq⟩
     | exact hq
  | region id ops d=>
   simp only at h
   split at h
   ·rename_i W c' hW
    obtain ⟨rfl,h⟩:=h
    exact hL _ _ _ hW rd ro σ T D K h
   ·cases d with
    | false=>exact AP (Q:=K) hcal hrnd h
    | true=>exact ER (Q:=K) hcal hrnd hm h
  | rangeFunc f ps a b=>
   simp only at h
   split at h
   ·rename_i fi first ca hf
    cases rd with
    | none=>
     obtain ⟨fn,h1,h2,h3,h4⟩:=hcal _ _ _ _ _ h
     exact VWx.range0 hf h1 h2 h3 h4
    | some i0=>
     simp only at h
     split at h
     ·rename_i hlp
      obtain ⟨fn,h1,h2,h3,h4⟩:=hcal _ _ _ _ _ h
      exact VWx.range1 hf hlp h1 h2 h3 h4
     ·exact h.elim
   ·exact h.elim
  | label l=>exact VWx.here (e:= .normal) h fun F a w R hr=>wpIn_label hr
  | goto l=>exact h.elim
  | refuse why=>exact h.elim
theorem CQ {C:FuncId→Option aM} (hm:P.follows .mixedOrders=true) (hB:iE P=true) (hC:aQ P G C) {F:fq} {n:Nat} {L:Nat→Option (br × Code)} (hL:eP P G L) {ro:Nat} {f:FuncId} {xs:List TV} {T:VT} {K:TV→VT→Prop}
  (h:aq P G C F n L ro f xs T K):VCx P G ro f xs T K:=by
 unfold aq at h
 split at h
 ·rename_i fn hf
  split at h
  ·rename_i c hc
   exact VCx.enter hf hc (vz hm hB hC n n (Nat.le_refl _) _ _ hL _ _ _ _ _ _ _ h)
  ·exact h.elim
 ·exact h.elim
theorem ai:aQ P G fun _=>none:=fun _ _ h=>by cases h
end
end
section
open Go.RowKit

section
variable {P:Program} {G:aK}
def dE (id:Nat):Code→Option Code
 | .block i c=>bif Nat.beq i id then some (.block i c) else dE id c
 | .seq a b=>match dE id a with
  | some c=>some c
  | none=>dE id b
 | .cond _ a b=>match dE id a with
  | some c=>some c
  | none=>dE id b
 | .loop c=>dE id c
 | .scope c=>dE id c
 | .rangeFunc _ _ a b=>match dE id a with
  | some c=>some c
  | none=>dE id b
 | _=>none
def JQ (P:Program) (f:FuncId):Code:=match P.funcs[f]? with
 | some fn=>fn.body.getD .skip
 | none=> .skip
def am (P:Program) (f:FuncId) (id:Nat):Code:=(dE id (JQ P f)).getD .skip
def sc:Code→Code
 | .block _ (.loop c)=>c
 | _=> .skip
def bd (P:Program) (f:FuncId) (id:Nat):Code:=sc (am P f id)
def gm (id:Nat):Code→Bool
 | .block i (.loop _)=>Nat.beq i id
 | _=>false
theorem tI {id:Nat} {c:Code} (h:gm id c=true):c= .block id (.loop (sc c)):=by
 unfold gm at h
 split at h
 ·rw [Nat.eq_of_beq_eq_true h];rfl
 ·cases h

def LEs:List TV→List (Option TV)→Prop
 | [], []=>True
 | _::l,none::m=>LEs l m
 | x::l,some y::m=>x=y∧LEs l m
 | _,_=>False
def iW (m:List (Option TV)):List TV:=m.map fun o=>o.getD .dead
theorem LEs.ok {g:Gh} {w:World}:∀{σ:List TV} {m:List (Option TV)} {us:List Value},LEs σ m→VRs g w σ us→VRs g w (iW m) us
 | [], [],us,_,h=>h
 | x::l,none::m,us,k,h=>by
  match us,h with
  | [],h=>have:=h.1;simp at this
  | u::us,h=>
   have h1:VRs g w l us:=⟨by have:=h.1;simpa using this,fun j y v hy hv=>h.2 (j+1) y v (by simpa using hy) (by simpa using hv)⟩
   exact VRs.cons (.dead u) (LEs.ok (show LEs l m from k) h1)
 | x::l,some y::m,us,k,h=>by
  obtain ⟨rfl,k⟩:=k
  match us,h with
  | [],h=>have:=h.1;simp at this
  | u::us,h=>
   have h1:VRs g w l us:=⟨by have:=h.1;simpa using this,fun j y v hy hv=>h.2 (j+1) y v (by simpa using hy) (by simpa using hv)⟩
   exact VRs.cons (h.2 0 x u rfl rfl) (LEs.ok k h1)
 | [],_::_,_,k,_=>k.elim
 | x::l, [],_,k,_=>k.elim
theorem VWx.sub {rd:Option Nat} {ro:Nat} {c:Code} {σ σ' :List TV} {T:VT} {D:List Nat} {Q:KX} (h:VWx P G rd ro c σ' T D Q) (hs:∀g w us,VRs g w σ us→VRs g w σ' us):VWx P G rd ro c σ T D Q:=
 fun r g w a rw0 hG hσ=>h r g w a rw0 hG (hs _ _ _ hσ)

def CR {ι:Type} (μ:ι→Nat) (sl:ι→List (Option TV)) (tt:ι→VT) (Inv:ι→Prop) (N M:Nat) (s:ι) (σ:List TV) (T:VT):Prop:=
 ∃s',Inv s' ∧μ s' <μ s∧((T=tt s' ∧LEs σ (sl s'))∨(T.keep N M=tt s' ∧LEs (av (au N) (au M) σ) (sl s')))
theorem VWx.loopS {ι:Type} {rd:Option Nat} {c:Code} {D:List Nat} {Q:KX} (μ:ι→Nat) (sl:ι→List (Option TV)) (tt:ι→VT) (Inv:ι→Prop) (N M:Nat) (hN:∀s,Inv s→(tt s).objs.length≤N∧(tt s).tails.length≤M) (hD:∀id∈D,id<N)
    (hbody:∀s,Inv s→VWx P G rd 0 c (iW (sl s)) (tt s) D (mW (fun σ T D' =>D' =D∧CR μ sl tt Inv N M s σ T) Q)):
    ∀s,Inv s→VWx P G rd 0 (.loop c) (iW (sl s)) (tt s) D Q:=by
  intro s0 hs0
  refine VWx.loop (fun n σ T D' =>∃s,Inv s∧μ s=n∧σ=iW (sl s)∧T=tt s∧D' =D) (μ s0) ⟨s0,hs0,rfl,rfl,rfl,rfl⟩ ?_
  rintro n σ T D' ⟨s,hs,rfl,rfl,rfl,rfl⟩
  intro r g w a rw0 hG hσ hd hDs hrd
  refine wpIn_mono (hbody s hs r g w a rw0 hG hσ hd hDs hrd) ?_
  rintro e a' w' ⟨g',σ',T',D'',hq,e',r',hσ',hd',hDs',hx⟩
  cases e<;>first
    | exact ⟨g',σ',T',D'',hq,e',r',hσ',hd',hDs',hx⟩
    | (obtain ⟨rfl,s',hs',hlt,⟨rfl,hle⟩ | ⟨hT,hle⟩⟩:=hq
       · exact ⟨g',_,_,_,⟨_,hlt,s',hs',rfl,rfl,rfl,rfl⟩,e',r',hle.ok hσ',hd',hDs',hx⟩
       · have hdk:∀id∈D'',(g'.keep N M).obj id=g'.obj id:=fun id hid=>by simp [Gh.keep,hD id hid]
         refine ⟨g'.keep N M,_,tt s',D'',⟨_,hlt,s',hs',rfl,rfl,rfl,rfl⟩,e'.keep rw0 (hN s hs).1 (hN s hs).2,hT▸r'.keep N M,hle.ok (hσ'.ren (mI g' N M)), ?_, ?_, ?_⟩
         · rw [hd']
           apply List.map_congr_left
           intro id hid
           simp only [mk,hdk id hid]
         · intro id hid
           rw [hdk id hid];exact hDs' id hid
         · refine ⟨?_,fun i hi=>absurd hi (Nat.not_lt_zero i),fun i o b hi=>absurd hi (Nat.not_lt_zero i)⟩
           rw [←hT]
           simp only [VT.keep,List.length_map,List.length_take]
           have h1:=hx.len
           have h2:=(hN s hs).1
           omega)
theorem VWx.blockS {ι:Type} {rd:Option Nat} {f:FuncId} {id:Nat} {D:List Nat} {Q:KX} (hc:gm id (am P f id)=true) (μ:ι→Nat) (sl:ι→List (Option TV)) (tt:ι→VT) (Inv:ι→Prop) (N M:Nat) (hN:∀s,Inv s→(tt s).objs.length≤N∧(tt s).tails.length≤M) (hD:∀id∈D,id<N)
  (hbody:∀s,Inv s→VWx P G rd 0 (bd P f id) (iW (sl s)) (tt s) D (mW (fun σ T D' =>D' =D∧CR μ sl tt Inv N M s σ T) (oq id Q))):
  ∀s,Inv s→VWx P G rd 0 (am P f id) (iW (sl s)) (tt s) D Q:=by
 intro s hs
 rw [tI hc]
 exact VWx.block (VWx.loopS μ sl tt Inv N M hN hD hbody s hs)
def jy (G:aK):Prop:=∀n cs,G n=some cs→∃vs:List Value,cs=vs.map .val
theorem GOk.sub {g g' :Gh} {w:World} {f h:Nat→Option Nat} (hv:jy G) (k:GOk G g w) (r:nX g g' f h):GOk G g' w:=fun n cs hn=>by
 obtain ⟨vs,rfl⟩:=hv n cs hn
 have h1:=(k n _ hn).ren r
 simp only [TV.ren,nW] at h1
 exact h1
theorem VCx.lift {ro:Nat} {f:FuncId} {xs ys:List TV} {T:VT} {Q:TV→VT→Prop} (is ks:List Nat) (hv:jy G) (hi:is.Nodup) (hk:ks.Nodup) (hil:∀i∈is,∃o,T.objs[i]?=some o∧o.live=true) (hkl:∀k∈ks,k<T.tails.length) (hro:∀i∈is,ro≤i)
  (hx:av (bc is) (bc ks) ys=xs) (h:VCx P G 0 f xs (T.give is ks) Q) (hlen:∀x T',Q x T' →is.length≤T'.objs.length∧ks.length≤T'.tails.length):
  VCx P G ro f ys T fun y T'' =>∃x T',Q x T' ∧y=x.ren (ba T.objs.length is) (ba T.tails.length ks)∧T'' =T.back is ks T' :=by
 intro g w us rw0 hG hxs
 have hargs:=hxs.ren (pg g T is ks)
 rw [hx] at hargs
 have hil' :∀i∈is,i<T.objs.length:=fun i h=>by obtain ⟨o,h1,_⟩:=hil i h;exact (List.getElem?_eq_some_iff.1 h1).1
 have r1:=rw0.give hi hk hil' hkl
 refine Calls.mono (h _ w _ r1 (hG.sub hv (pg g T is ks)) hargs) ?_
 rintro e w' ⟨v,x,gc,T',rfl,hq,e',r',hv',_⟩
 obtain ⟨l1,l2⟩:=hlen x T' hq
 obtain ⟨g',ev,rb,rn⟩:=uq rw0 hi hk hil hkl e' r' l1 l2
 obtain ⟨b1,b2,b3,b4⟩:=iR is T.objs (T'.objs.map (VO.ren (ba T.objs.length is) (ba T.tails.length ks))) hi hil' (by simpa using l1)
 refine ⟨v,_,g',_,rfl,⟨x,T',hq,rfl,rfl⟩,ev,rb,hv'.ren rn, ?_, ?_, ?_⟩
 ·show T.objs.length≤(cq T.objs is _).length
  rw [b1];omega
 ·intro i hir hil2
  exact b2 i hil2 fun hm=>absurd (hro i hm) (by omega)
 ·intro i o b hir ho hl hb
  have hnm:i∉is:=fun hm=>absurd (hro i hm) (by omega)
  exact e'.frb b (.inr (.inl ⟨i,o,ho,hl,hnm,hb⟩))
theorem VCx.liftPure {ro:Nat} {f:FuncId} {xs ys:List TV} {T:VT} {y:TV} {K:TV→VT→Prop} (hv:jy G) (h:VCx P G 0 f xs ⟨[], []⟩ fun x T' =>x=y∧T' =⟨[], []⟩) (hx:av (bc []) (bc []) ys=xs) (hy:∀f h,y.ren f h=y) (k:K y T):VCx P G ro f ys T K:=by
 refine (VCx.lift (T:=T) [] [] hv List.nodup_nil List.nodup_nil (by simp) (by simp) (by simp) hx (by rw [VT.give_nil];exact h) (fun _ _ _=>⟨Nat.zero_le _,Nat.zero_le _⟩)).mono ?_
 rintro z T' ⟨x,T'',⟨rfl,rfl⟩,rfl,rfl⟩
 have hb:T.back [] [] ⟨[], []⟩=T:=by rw [VT.back_nil];cases T;simp
 rw [hy,hb];exact k
def aw:List (FuncId × aM)→FuncId→Option aM
 | [],_=>none
 | (f,W)::l,g=>bif Nat.beq f g then some W else aw l g
theorem aE:∀{l:List (FuncId × aM)},(∀p∈l,∀ro xs T K,p.2 ro xs T K→VCx P G ro p.1 xs T K)→aQ P G (aw l)
 | [],_=>fun _ _ h=>by cases h
 | (f,W)::l,h=>fun g W' hW=>by
  simp only [aw] at hW
  cases hb:Nat.beq f g with
  | true=>
   rw [hb] at hW
   injection hW with hW;subst hW
   have:=Nat.eq_of_beq_eq_true hb
   subst this
   exact h _ List.mem_cons_self
  | false=>
   rw [hb] at hW
   exact aE (fun p hp=>h p (List.mem_cons_of_mem _ hp)) g W' hW
theorem aF {b:Bool} {X Y:Prop} (ht:b=true→X) (hf:b=false→Y):cond b X Y:=by
 cases b
 ·exact hf rfl
 ·exact ht rfl
theorem VCx.keepQ {f:FuncId} {xs:List TV} {T:VT} {Q:TV→VT→Prop} (n m:Nat) (hn:T.objs.length≤n) (hm:T.tails.length≤m) (h:VCx P G 0 f xs T fun x T' =>Q (x.ren (au n) (au m)) (T'.keep n m)):VCx P G 0 f xs T Q:=by
 intro g w us rw0 hG hx
 refine Calls.mono (h g w us rw0 hG hx) ?_
 rintro e w' ⟨v,x,g',T',he,hq,e',r',hv,hfx⟩
 refine ⟨v,_,g'.keep n m,T'.keep n m,he,hq,e'.keep rw0 hn hm,r'.keep n m,hv.ren (mI g' n m), ?_,fun i hi=>absurd hi (Nat.not_lt_zero i),fun i o b hi=>absurd hi (Nat.not_lt_zero i)⟩
 simp only [VT.keep,List.length_map,List.length_take]
 have h1:=hfx.len
 omega
end
end
section
open Go.RowKit

end
section
open Go.RowKit

section
variable {P:Program}

def Hb:TV→Bool
 | .val _ | .ptr .. | .sl .. | .map _ | .dead=>true
 | _=>false
def pz (x:TV):TV:=if Hb x then x else .dead
def wL (size k e:Nat) (n:Nat) (es' :List (List TV)) (σ:List TV):List TV:=σ.map fun x=>match x with
 | .vec s es (.tail k' e')=>if s=size∧k' =k∧e' =e∧es.length=n then .vec size es' .none else .dead
 | x=>pz x
theorem oC {g:Gh} {w:World}:∀{xs:List TV} {us us' :List Value},xs.map ce=us.map some→VRs g w xs us' →us' =us
 | [], [],us',_,k=>List.eq_nil_of_length_eq_zero k.1
 | [],_::_,_,h,_=>by simp at h
 | _::_, [],_,h,_=>by simp at h
 | x::xs,u::us,us',h,k=>by
  simp only [List.map_cons,List.cons.injEq] at h
  cases us' with
  | nil=>have:=k.1;simp at this
  | cons u' us' =>
   have h1:=cD h.1 (k.2 0 x u' rfl rfl)
   have h2:=oC (us' :=us') h.2 ⟨by have:=k.1;simpa using this,fun j x u hx hu=>k.2 (j+1) x u (by simpa using hx) (by simpa using hu)⟩
   rw [h1,h2]
theorem VCalls.of_grT {f:FuncId} {xs:List TV} {us:List Value} {v:Value} (hx:xs.map ce=us.map some) (h:∀w,Calls P f us.toArray w fun e w' =>e= .returned v∧Gr w w') (T:VT):VCalls P f xs T fun x T' =>x= .val v∧T' =T:=by
 intro g w us' r hxs
 have:=oC hx hxs
 subst this
 refine (h w).mono ?_
 rintro e w' ⟨rfl,hg⟩
 exact ⟨v, .val v,g,T,rfl,⟨rfl,rfl⟩,Evo.of_gr r hg,r.gr hg, .val v⟩
end
end
section
open Go.ChangeShapes Go.WideShapes Go.ChangeAt Go.RowKit Go.Joins Go.Deep

def lM (w:World):Gh:=⟨fun _=>none,fun b o=>(w.cell? ⟨b,o,none⟩).isSome=true,fun b=>b<w.heap.size,fun _=>none⟩
theorem JR (w:World):RW (lM w) ⟨[], []⟩ w:=by
 refine ⟨(fun id o h=>by simp at h),(fun i j oi oj b h=>by simp at h),(fun _ _=>rfl),(fun _ _ h=>h),(fun _ h=>h),(fun k p h=>by simp at h),(fun _ _=>rfl),(fun i j x y b h=>nomatch h),(fun i oi b k x h=>by simp at h),(fun k x h=>nomatch h),(fun k x h=>nomatch h),(fun k x h=>nomatch h)⟩
section
variable {H:Type} {enc:TypeId × Value→H} {P:Program} {w:World} {base:Nat} {spare:Nat→Bool} {held:Bool}
end
end
section
open Go.ChangeShapes Go.WideShapes Go.ChangeAt Go.RowKit Go.Joins Go.Deep

def tJ (x:TV) (_:VT):Prop:=match x with
 | .val (.bool b)=>cond b True False
 | _=>False
theorem VCx.top {P:Program} {ro:Nat} {f:FuncId} {xs:List TV} {us:List Value} (h:VCx P (fun _=>none) ro f xs ⟨[], []⟩ tJ) (w:World) (hx:VRs (lM w) w xs us):
  Calls P f us.toArray w fun e w' =>e= .returned (.bool true)∧Gr w w' :=by
 refine (h (lM w) w us (JR w) (fun _ _ h=>nomatch h) hx).mono ?_
 rintro e w' ⟨u,x,g',T',rfl,hq,ev,_,hv,_⟩
 unfold tJ at hq
 split at hq
 ·rename_i b
  cases b with
  | false=>exact hq.elim
  | true=>
   rw [hv.val_inv]
   exact ⟨rfl,ev.os,ev.tape,ev.output,ev.size,fun b hb=>ev.frb b hb⟩
 ·exact hq.elim

section
variable {H:Type} {enc:TypeId × Value→H} {P:Program} {w:World} {base:Nat} {spare:Nat→Bool} {held:Bool}
def ml (P:Program) (f:TypeId→Option (List TypeId)):Nat→List Field→Option (List TypeId)
 | _, []=>some []
 | off,fd::r=>match f fd.type with
  | some ls=>bif Nat.beq fd.offset off&&Nat.beq (P.cellsOf fd.type) ls.length then (ml P f (off+ls.length) r).map (ls++ ·) else none
  | none=>none
def mm (P:Program):Nat→TypeId→Option (List TypeId)
 | 0,_=>none
 | n+1,t=>match P.underlying t with
  | some (.struct fs)=>ml P (mm P n) 0 fs.toList
  | some (.array ..)=>none
  | _=>some [t]
theorem sd {f:TypeId→Option (List TypeId)} {m:Nat} {cs:List Value}
  (hf:∀t ts sub x,f t=some ts→sub.length=ts.length→DataW.trod enc P w base spare held m t sub=some x→∀(j:Nat) t',ts[j]?=some t' →∃u m' y,sub[j]?=some u∧DataW.trod enc P w base spare held m' t' [u]=some y):
  ∀(l:List Field) (off:Nat) (ts:List TypeId),ml P f off l=some ts→cs.length=off+ts.length→(∀fd∈l,∃y,DataW.trod enc P w base spare held m fd.type ((cs.drop fd.offset).take (P.cellsOf fd.type))=some y)→
   ∀(j:Nat) t',ts[j]?=some t' →∃u m' y,cs[off+j]?=some u∧DataW.trod enc P w base spare held m' t' [u]=some y
 | [],off,ts,h,hl,hy,j,t',hj=>by
  simp only [ml] at h
  injection h with h;subst h
  simp at hj
 | fd::l,off,ts,h,hl,hy,j,t',hj=>by
  simp only [ml] at h
  split at h
  ·rename_i ls hls
   cases hb:(Nat.beq fd.offset off&&Nat.beq (P.cellsOf fd.type) ls.length) with
   | false=>rw [hb] at h;cases h
   | true=>
    rw [hb] at h
    simp only [Bool.and_eq_true] at hb
    have h1:=Nat.eq_of_beq_eq_true hb.1
    have h2:=Nat.eq_of_beq_eq_true hb.2
    simp only [cond_true,Option.map_eq_some_iff] at h
    obtain ⟨ts',h3,rfl⟩:=h
    rw [List.length_append] at hl
    rcases Nat.lt_or_ge j ls.length with hj' | hj'
    ·rw [List.getElem?_append_left hj'] at hj
     obtain ⟨y,hy⟩:=hy fd (by simp)
     rw [h1,h2] at hy
     obtain ⟨u,m',y',k1,k2⟩:=hf _ _ _ _ hls (by rw [List.length_take,List.length_drop];omega) hy j t' hj
     refine ⟨u,m',y', ?_,k2⟩
     rw [List.getElem?_take,if_pos hj',List.getElem?_drop] at k1
     exact k1
    ·rw [List.getElem?_append_right hj'] at hj
     obtain ⟨u,m',y',k1,k2⟩:=sd hf l (off+ls.length) ts' h3 (by omega) (fun fd' h=>hy fd' (by simp [h])) (j-ls.length) t' hj
     refine ⟨u,m',y', ?_,k2⟩
     rw [←k1]
     congr 1
     omega
  ·cases h
theorem uJ:∀(n:Nat) (m:Nat) (t:TypeId) (ts:List TypeId) (cs:List Value) (x:DataW H × List MemPlace),mm P n t=some ts→cs.length=ts.length→DataW.trod enc P w base spare held m t cs=some x→
    ∀(j:Nat) t',ts[j]?=some t' →∃u m' y,cs[j]?=some u∧DataW.trod enc P w base spare held m' t' [u]=some y
  | 0,_,_,_,_,_,h,_,_=>by simp only [mm] at h;cases h
  | n+1,m,t,ts,cs,x,h,hl,ht=>by
    simp only [mm] at h
    split at h
    · rename_i fs hs
      obtain ⟨xs,m',_,_,_,hlen,hg⟩:=DataW.trod_struct hs ht
      intro j t' hj
      have:=sd (P:=P) (enc:=enc) (w:=w) (base:=base) (spare:=spare) (held:=held) (m:=m') (cs:=cs) (fun t ts sub x h1 h2 h3=>uJ n m' t ts sub x h1 h2 h3) fs.toList 0 ts h (by omega) ?_ j t' hj
      · simpa using this
      · intro fd hfd
        obtain ⟨i,hi,rfl⟩:=List.mem_iff_getElem.1 hfd
        have hi' :i<fs.size:=by simpa using hi
        have h1:=hg i fs[i] (Array.getElem?_eq_getElem hi')
        have hx:i<xs.length:=by omega
        exact ⟨xs[i],by simpa [List.getElem?_eq_getElem hx] using h1⟩
    · cases h
    · injection h with h;subst h
      intro j t' hj
      match cs,hl with
      | [u],_=>
        have:j=0:=by
          rcases j with _ | j
          · rfl
          · simp at hj
        subst this
        simp at hj;subst hj
        exact ⟨u,m,x,rfl,ht⟩
theorem ES {m ty:Nat} {u:Value} {y:DataW H × List MemPlace} {k:IntKind} (hk:P.underlying ty=some (.int k)) (h:DataW.trod enc P w base spare held m ty [u]=some y):∃n,u= .int k n∧(Lit.int k n).wf=true:=by
 obtain ⟨n,e0,_,wn⟩:=DataW.trod_int hk h
 injection e0 with e0
 exact ⟨n,e0,wn⟩
end
end
section
open Go.RowKit

section
variable {P:Program} {G:aK}
def pA:List Nat→List TV→Nat→Option TV
 | k::ks,v::vs,i=>bif Nat.beq k i then some v else pA ks vs i
 | _,_,_=>none
def gn (n:Nat) (keys:List Nat) (vs:List TV):List (Option TV):=(List.range n).map (pA keys vs)
def aj (n:Nat) (keys:List Nat) (vs:List TV):List TV:=iW (gn n keys vs)
def pick (keys:List Nat) (σ:List TV):List TV:=keys.map fun t=>σ.getD t .dead
theorem sf (σ:List TV):∀(keys:List Nat) (i:Nat) (x:TV),pA keys (pick keys σ) i=some x→x=σ.getD i .dead
 | [],_,_,h=>by simp [pA,pick] at h
 | k::ks,i,x,h=>by
  simp only [pick,List.map_cons,pA] at h
  cases hb:Nat.beq k i with
  | true=>
   rw [hb] at h
   have:=Nat.eq_of_beq_eq_true hb
   subst this
   injection h with h;exact h.symm
  | false=>rw [hb] at h;exact sf σ ks i x h
theorem wM:∀(σ:List TV) (m:List (Option TV)),m.length=σ.length→(∀(i:Nat) x,m[i]?=some (some x)→x=σ.getD i .dead)→LEs σ m
 | [], [],_,_=>trivial
 | [],_::_,h,_=>by simp at h
 | _::_, [],h,_=>by simp at h
 | x::l,none::m,h,k=>wM l m (by simpa using h) fun i y hy=>by simpa using k (i+1) y (by simpa using hy)
 | x::l,some y::m,h,k=>⟨by simpa using (k 0 y rfl).symm,wM l m (by simpa using h) fun i y hy=>by simpa using k (i+1) y (by simpa using hy)⟩
theorem kb (σ:List TV) (keys:List Nat):LEs σ (gn σ.length keys (pick keys σ)):=by
 refine wM _ _ (by simp [gn]) fun i x hx=> ?_
 simp only [gn,List.getElem?_map,Option.map_eq_some_iff] at hx
 obtain ⟨j,hj,hx⟩:=hx
 have e:j=i:=by
  have:=(List.getElem?_eq_some_iff.1 hj).2
  simpa using this.symm
 subst e
 exact sf σ keys j x hx
theorem ET (f h:Nat→Option Nat) (keys:List Nat) (σ:List TV):pick keys (av f h σ)=av f h (pick keys σ):=by
 simp only [pick,eM,List.map_map]
 refine List.map_congr_left fun t _=> ?_
 simp only [Function.comp_apply,List.getD_eq_getElem?_getD,List.getElem?_map]
 cases σ[t]?<;>simp [TV.ren]
def bA (keys:List Nat) (Q:Exit→List TV→VT→List Nat→Nat→Prop):KX:=fun e σ T D=>Q e (pick keys σ) T D σ.length
theorem VWx.forget {rd:Option Nat} {ro:Nat} {c:Code} {σ:List TV} {T:VT} {n:Nat} {keys:List Nat} {K:KX} {Q:Exit→List TV→VT→Prop} (h:VWx P G rd ro c σ T [] (bA keys fun e vs T D m=>D= []∧m=n∧Q e vs T))
  (k:∀e vs T,Q e vs T→K e (aj n keys vs) T []):VWx P G rd ro c σ T [] K:=by
 intro r g w a rw0 hG hσ hd hD hr
 refine wpIn_mono (h r g w a rw0 hG hσ hd hD hr) ?_
 rintro e a' w' ⟨g',σ',T',D',⟨rfl,rfl,hq⟩,e',r',hσ',h⟩
 exact ⟨g',_,T', [],k _ _ _ hq,e',r',(kb σ' keys).ok hσ',h⟩

def m4 {ι:Type} (n id:Nat) (μ:ι→Nat) (sl:ι→List TV) (tt:ι→VT) (Inv:ι→Prop) (N M:Nat) (s:ι) (Post:Exit→List TV→VT→Prop):Exit→List TV→VT→List Nat→Nat→Prop:=fun e vs T D m=>D= []∧m=n∧match e with
 | .normal=>∃s',Inv s' ∧μ s' <μ s∧((T=tt s' ∧vs=sl s')∨(T.keep N M=tt s' ∧av (au N) (au M) vs=sl s'))
 | .exit i=>cond (Nat.beq i id) (Post .normal vs T) (Post (.exit i) vs T)
 | e=>Post e vs T
theorem bK {ι:Type} {f:FuncId} {id:Nat} (hc:gm id (am P f id)=true) (n:Nat) (keys:List Nat) (μ:ι→Nat) (sl:ι→List TV) (tt:ι→VT) (Inv:ι→Prop) (N M:Nat) (hN:∀s,Inv s→(tt s).objs.length≤N∧(tt s).tails.length≤M) (Post:Exit→List TV→VT→Prop)
  (hbody:∀s,Inv s→VWx P G none 0 (bd P f id) (aj n keys (sl s)) (tt s) [] (bA keys (m4 n id μ sl tt Inv N M s Post))):
  ∀s,Inv s→∀K:KX,(∀e vs T,Post e vs T→K e (aj n keys vs) T [])→VWx P G none 0 (am P f id) (aj n keys (sl s)) (tt s) [] K:=by
 intro s hs K hK
 refine VWx.forget (n:=n) (keys:=keys) (Q:=Post) ?_ hK
 refine VWx.blockS hc μ (fun s=>gn n keys (sl s)) tt Inv N M hN (by simp) (fun s hs=>(hbody s hs).mono fun e σ T D hq=> ?_) s hs
 obtain ⟨rfl,hm,hq⟩:=hq
 cases e
 case normal=>
  refine ⟨rfl, ?_⟩
  obtain ⟨s',h1,h2,h3⟩:=hq
  refine ⟨s',h1,h2, ?_⟩
  rcases h3 with ⟨h3,h4⟩ | ⟨h3,h4⟩
  ·left;refine ⟨h3, ?_⟩
   show LEs σ (gn n keys (sl s'))
   rw [←h4,←hm];exact kb σ keys
  ·right;refine ⟨h3, ?_⟩
   show LEs _ (gn n keys (sl s'))
   rw [←h4,←ET,←hm]
   have:=kb (av (au N) (au M) σ) keys
   rwa [show (av (au N) (au M) σ).length=σ.length by rw [eM];simp] at this
 case exit i=>
  simp only [mW,oq]
  simp only at hq
  cases hb:Nat.beq i id<;>rw [hb] at hq
  ·exact ⟨rfl,hm,hq⟩
  ·exact ⟨rfl,hm,hq⟩
 all_goals exact ⟨rfl,hm,hq⟩
theorem VWx.adopt {rd:Option Nat} {ro:Nat} {c:Code} {σ:List TV} {T:VT} {D:List Nat} {Q:KX} (d size:Nat) (hd:σ[d]?=some (.val (.slice none 0 0)))
  (h:VWx P G rd ro c (σ.set d (.vec size [] (.tail T.tails.length 0))) {T with tails:=T.tails++ [(0,size,true)]} D Q):VWx P G rd ro c σ T D Q:=by
 intro r g w a rw0 hG hσ hdf hDs hrd
 obtain ⟨g1,e1,r1,ht⟩:=rw0.newTail size true
 obtain ⟨u,hu,hv⟩:=hσ.at hd
 have hv' :=hv.val_inv
 subst hv'
 have h2:=(hσ.mono e1).set d (x:= .vec size [] (.tail T.tails.length 0)) (u:= .slice none 0 0) (.nil ⟨_,ht,Nat.le_refl _,rfl⟩)
 have h3:a.tmps.toList.set d (.slice none 0 0)=a.tmps.toList:=by
  apply List.ext_getElem?
  intro j
  rw [List.getElem?_set]
  split
  ·rename_i hj;subst hj;rw [hu,if_pos (List.getElem?_eq_some_iff.1 hu).1]
  ·rfl
 rw [h3] at h2
 refine wpIn_mono (h r g1 w a r1 (hG.mono e1) h2 (hdf.trans (j4 e1 hDs).symm) (eN e1 hDs) (wi e1 hrd)) ?_
 rintro e a' w' ⟨g',σ',T',D',hq,e2,r',hσ',hd',hD',hx⟩
 exact ⟨g',σ',T',D',hq,e1.trans e2,r',hσ',hd',hD',⟨hx.len,fun i hi hl=>hx.same i hi hl,fun i o b hi ho hl hb=>hx.heap i o b hi ho hl (e1.obj i b hb)⟩⟩
def cM:List (Nat × Nat)→List TV→VT→List TV × VT
 | [],σ,T=>(σ,T)
 | p::l,σ,T=>cM l (σ.set p.1 (.vec p.2 [] (.tail T.tails.length 0))) {T with tails:=T.tails++ [(0,p.2,true)]}
def mn:List (Nat × Nat)→List TV→Prop
 | [],_=>True
 | p::l,σ=>σ[p.1]?=some (.val (.slice none 0 0))∧mn l (σ.set p.1 .dead)
def bN (n:Nat) (keys:List Nat) (ad:List (Nat × Nat)) (vs0:List TV) (T0:VT) (R:KX→Prop):br:=fun rd ro σ T D K=>(rd=none∧ro=0∧D= []∧mn ad σ∧(cM ad σ T).2=T0∧Nat.beq σ.length n=true∧pick keys (cM ad σ T).1=vs0)∧R K
theorem oD {rd:Option Nat} {ro:Nat} {c:Code} {D:List Nat} {Q:KX}:∀(ad:List (Nat × Nat)) (σ σ' :List TV) (T:VT),mn ad σ' →(∀(i:Nat),σ'[i]?=some (.val (.slice none 0 0))→σ[i]?=some (.val (.slice none 0 0)))→σ.length=σ'.length→
  VWx P G rd ro c (cM ad σ T).1 (cM ad σ T).2 D Q→VWx P G rd ro c σ T D Q
 | [],_,_,_,_,_,_,h=>h
 | p::l,σ,σ',T,ho,hs,hl,h=>by
  obtain ⟨h1,h2⟩:=ho
  refine VWx.adopt p.1 p.2 (hs _ h1) (oD l _ (σ'.set p.1 .dead) _ h2 (fun i hi=> ?_) (by simpa using hl) h)
  rw [List.getElem?_set] at hi ⊢
  split
  ·rename_i e;subst e;rw [if_pos rfl] at hi;split at hi<;>simp at hi
  ·rename_i e;rw [if_neg e] at hi;exact hs i hi
theorem ke:∀(ad:List (Nat × Nat)) (σ:List TV) (T:VT),(cM ad σ T).1.length=σ.length
 | [],_,_=>rfl
 | p::l,σ,T=>by rw [cM,ke l];simp
theorem aS {c:Code} {n:Nat} {keys:List Nat} {ad:List (Nat × Nat)} {vs0:List TV} {T0:VT} {R:KX→Prop} (h:∀K,R K→VWx P G none 0 c (aj n keys vs0) T0 [] K):
  ∀rd ro σ T D K,bN n keys ad vs0 T0 R rd ro σ T D K→VWx P G rd ro c σ T D K:=by
 rintro rd ro σ T D K ⟨⟨rfl,rfl,rfl,ha,rfl,hn,rfl⟩,hR⟩
 obtain rfl:=Nat.eq_of_beq_eq_true hn
 refine oD ad σ σ T ha (fun _ h=>h) rfl ((h K hR).sub fun g w us hu=> ?_)
 have:=(kb (cM ad σ T).1 keys).ok hu
 rwa [ke] at this
def bv:List (Nat × br × Code)→Nat→Option (br × Code)
 | [],_=>none
 | (i,W,c)::l,j=>bif Nat.beq i j then some (W,c) else bv l j
theorem aL:∀{l:List (Nat × br × Code)},(∀p∈l,∀rd ro σ T D K,p.2.1 rd ro σ T D K→VWx P G rd ro p.2.2 σ T D K)→eP P G (bv l)
 | [],_=>fun _ _ _ h=>by cases h
 | (i,W,c)::l,h=>fun j W' c' hW=>by
  simp only [bv] at hW
  cases hb:Nat.beq i j with
  | true=>
   rw [hb] at hW
   injection hW with hW;injection hW with h1 h2;subst h1 h2
   exact h _ List.mem_cons_self
  | false=>
   rw [hb] at hW
   exact aL (fun p hp=>h p (List.mem_cons_of_mem _ hp)) j W' c' hW

theorem VCx.ofCalls {f:FuncId} {xs:List TV} {y:TV} (hx:av (bc []) (bc []) xs=xs) (h:VCalls P f xs ⟨[], []⟩ fun x T' =>x=y∧T' =⟨[], []⟩) (hy:∀f h,y.ren f h=y):VCx P G 0 f xs ⟨[], []⟩ fun x T' =>x=y∧T' =⟨[], []⟩:=
 (VCx.of_pure (T:=⟨[], []⟩) h hx).mono fun x T' hq=>by
  obtain ⟨h1,h2⟩:=hq
  exact ⟨by rw [h1,hy],h2⟩

theorem aI {C:FuncId→Option aM} (hm:P.follows .mixedOrders=true) (hB:iE P=true) (hC:aQ P G C) {F:fq} {n:Nat} {L:Nat→Option (br × Code)} (hL:eP P G L) {rd:Option Nat} {ro:Nat} {c:Code} {σ:List TV} {T:VT} {D:List Nat} {K:KX} {X:Prop}
  (h:vx P G C F n L rd ro c σ T D K=X) (hx:X):VWx P G rd ro c σ T D K:=vz hm hB hC n n (Nat.le_refl _) F L hL _ _ _ _ _ _ _ (by rw [h];exact hx)
theorem ak {C:FuncId→Option aM} (hm:P.follows .mixedOrders=true) (hB:iE P=true) (hC:aQ P G C) {F:fq} {n:Nat} {L:Nat→Option (br × Code)} (hL:eP P G L) {ro:Nat} {f:FuncId} {xs:List TV} {T:VT} {K:TV→VT→Prop} {X:Prop}
  (h:aq P G C F n L ro f xs T K=X) (hx:X):VCx P G ro f xs T K:=CQ hm hB hC hL (by rw [h];exact hx)

theorem A1 {t e:TypeId} {inf:TypeInfo} {es:List (List TV)} {tok:Tok} {k:IntKind} {z:Int} {cs:List TV} (ht:P.underlying t=some (.slice e)) (hi:P.info? e=some inf) (h0:0≤z) (he:es[z.toNat]?=some cs):
  eJ P t (.vec inf.size es tok) (.val (.int k z))=some (.elt cs):=by
 simp [eJ,ht,hi,h0,he]
theorem gp {t e:TypeId} {x i:Operand} {l:List (Nat × TV)} {inf:TypeInfo} {es:List (List TV)} {tok:Tok} {k:IntKind} {z:Int} {cs:List TV} (ht:P.underlying t=some (.slice e)) (hi:P.info? e=some inf)
  (hx:bb G l x= .vec inf.size es tok) (hz:bb G l i= .val (.int k z)) (h0:0≤z) (he:es[z.toNat]?=some cs):ax P G (.indexAddr t x i) l (.elt cs):=by
 refine ⟨?_⟩
 simp only [bq,hx,hz,pp,A1 ht hi h0 he]
end
end
section
open Go.RowKit

section
variable {P:Program} {G:aK}
def cB:TV→TV
 | .vec s es _=> .vec s es .none
 | x=>x
theorem eQ {g:Gh} {w:World} {x:TV} {u:Value} (h:VR g w x u):VR g w (cB x) u:=by
 cases x with
 | vec s es t=>
  rcases h.vec_inv with ⟨rfl,rfl,h1⟩ | ⟨b,o,c,us,rfl,f1,f2,f3,f4,f5,f6,f7,f8⟩ | ⟨a,rfl,rfl,_⟩
  rotate_left 2
  ·exact .odd a trivial
  ·exact .nil trivial
  ·exact .mk_vec rfl f1 f2 f3 trivial f5 f6 f7 f8
 | _=>exact h
def iF:List Nat→List TV→List TV
 | [],σ=>σ
 | t::l,σ=>iF l (σ.set t (cB (σ.getD t .dead)))
theorem qc {g:Gh} {w:World}:∀(l:List Nat) {σ:List TV} {us:List Value},VRs g w σ us→VRs g w (iF l σ) us
 | [],_,_,h=>h
 | t::l,σ,us,h=>by
  refine qc l ⟨by simpa using h.1,fun j x u hx hu=> ?_⟩
  rw [List.getElem?_set] at hx
  split at hx
  ·rename_i e;subst e
   split at hx
   ·rename_i hl
    injection hx with hx;subst hx
    refine eQ (h.2 t _ u ?_ hu)
    rw [List.getD_eq_getElem?_getD,List.getElem?_eq_getElem hl];rfl
   ·cases hx
  ·exact h.2 j x u hx hu
theorem oE:∀(l:List Nat) (σ:List TV),(iF l σ).length=σ.length
 | [],_=>rfl
 | t::l,σ=>by rw [iF,oE l];simp
def vA (n:Nat) (keys:List Nat) (ad:List (Nat × Nat)) (lo:List Nat) (vs0:List TV) (T0:VT) (R:KX→Prop):br:=fun rd ro σ T D K=>(rd=none∧ro=0∧D= []∧mn ad σ∧(cM ad σ T).2=T0∧Nat.beq σ.length n=true∧pick keys (iF lo (cM ad σ T).1)=vs0)∧R K
theorem qL {c:Code} {n:Nat} {keys:List Nat} {ad:List (Nat × Nat)} {lo:List Nat} {vs0:List TV} {T0:VT} {R:KX→Prop} (h:∀K,R K→VWx P G none 0 c (aj n keys vs0) T0 [] K):
  ∀rd ro σ T D K,vA n keys ad lo vs0 T0 R rd ro σ T D K→VWx P G rd ro c σ T D K:=by
 rintro rd ro σ T D K ⟨⟨rfl,rfl,rfl,ha,rfl,hn,rfl⟩,hR⟩
 obtain rfl:=Nat.eq_of_beq_eq_true hn
 refine oD ad σ σ T ha (fun _ h=>h) rfl ((h K hR).sub fun g w us hu=> ?_)
 have:=(kb (iF lo (cM ad σ T).1) keys).ok (qc lo hu)
 rwa [oE,ke] at this

theorem wN {t e:TypeId} {x i:Operand} {l:List (Nat × TV)} {inf:TypeInfo} {es:List (List TV)} {tok:Tok} {k:IntKind} {z:Int} (ht:P.underlying t=some (.slice e)) (hi:P.info? e=some inf)
  (hx:bb G l x= .vec inf.size es tok) (hz:bb G l i= .val (.int k z)) (h0:0≤z) (he:z.toNat≤es.length):ax P G (.slice t x none (some i) none) l (.vec inf.size (es.take z.toNat) .none):=by
 refine ⟨?_⟩
 simp [bq,hx,hz,jL,l4,l5,jV,ht,hi,fk,ey,h0,he]
theorem wO {t e:TypeId} {x i:Operand} {l:List (Nat × TV)} {inf:TypeInfo} {es:List (List TV)} {tok:Tok} {k:IntKind} {z:Int} (ht:P.underlying t=some (.slice e)) (hi:P.info? e=some inf)
  (hx:bb G l x= .vec inf.size es tok) (hz:bb G l i= .val (.int k z)) (h0:0≤z) (he:z.toNat≤es.length):ax P G (.slice t x (some i) none none) l (.vec inf.size (es.drop z.toNat) tok):=by
 refine ⟨?_⟩
 simp [bq,hx,hz,jL,l4,l5,jV,ht,hi,fk,ey,h0,he]
theorem fG {ro:Nat} {T T1:VT} {t e tx:TypeId} {s x:Operand} {l:List (Nat × TV)} {inf:TypeInfo} {z:Value} {es es2:List (List TV)} {k n:Nat} {bn:Bool} (ht:P.underlying t=some (.slice e)) (hi:P.info? e=some inf) (hz:inf.zero=some z) (hzs:z.cells.size=inf.size) (hp:0<inf.size)
  (hsl:eL (P.underlying tx)=true) (hs:dW T inf.size (bb G l s)=some (es,k,n,bn,T1)) (hx:fp inf.size (bb G l x)=some es2) (hb:(es.length+es2.length)*(inf.bytes+1)≤140737488355328):
  aB P G ro T (.call ⟨.builtin .append, #[s,x], #[t,tx]⟩) l (.vec inf.size (es++es2) (.tail k (n+es2.length))) {T1 with tails:=T1.tails.set k (n+es2.length,inf.size,bn)}:=by
 refine .old rfl ?_
 have h1:fb P T t tx (bb G l s) (bb G l x)=some (.vec inf.size (es++es2) (.tail k (n+es2.length)),{T1 with tails:=T1.tails.set k (n+es2.length,inf.size,bn)}):=by
  simp [fb,ht,hi,hz,hs,hx,hzs,hp,hsl,hb]
 simp [rD,dx,iZ,l3,h1]
end
end
section
open Go.RowKit

section
variable {P:Program} {G:aK}
theorem VRs.loose {g:Gh} {w:World} {xs:List TV} {us:List Value} (h:VRs g w xs us):VRs g w (xs.map cB) us:=by
 refine ⟨by simpa using h.1,fun j x u hx hu=> ?_⟩
 simp only [List.getElem?_map,Option.map_eq_some_iff] at hx
 obtain ⟨y,hy,rfl⟩:=hx
 exact eQ (h.2 j y u hy hu)
theorem VCx.loose {ro:Nat} {f:FuncId} {xs:List TV} {T:VT} {Q:TV→VT→Prop} (h:VCx P G ro f (xs.map cB) T Q):VCx P G ro f xs T Q:=fun g w us r hG hx=>h g w us r hG hx.loose
theorem VCx.loosePure {ro:Nat} {f:FuncId} {xs ys:List TV} {T:VT} {y:TV} {K:TV→VT→Prop} (hv:jy G) (h:VCx P G 0 f xs ⟨[], []⟩ fun x T' =>x=y∧T' =⟨[], []⟩) (hy:ys.map cB=xs) (hx:av (bc []) (bc []) xs=xs) (hr:∀f h,y.ren f h=y) (k:K y T):VCx P G ro f ys T K:=
 VCx.loose (VCx.liftPure hv h (by rw [hy];exact hx) hr k)
theorem VCx.looseAny {ro:Nat} {f:FuncId} {xs ys:List TV} {T:VT} {Y:TV→Prop} {K:TV→VT→Prop} (hv:jy G) (h:VCx P G 0 f xs ⟨[], []⟩ fun x T' =>Y x∧T' =⟨[], []⟩) (hy:ys.map cB=xs) (hx:av (bc []) (bc []) xs=xs) (hr:∀y,Y y→∀f h,y.ren f h=y) (k:∀y,Y y→K y T):VCx P G ro f ys T K:=by
 refine VCx.loose ((VCx.lift (xs:=xs) (T:=T) [] [] hv List.nodup_nil List.nodup_nil (by simp) (by simp) (by simp) (by rw [hy];exact hx) (by rw [VT.give_nil];exact h) (fun _ _ _=>⟨Nat.zero_le _,Nat.zero_le _⟩)).mono ?_)
 rintro z T' ⟨x,T'',⟨hY,rfl⟩,rfl,rfl⟩
 have hb:T.back [] [] ⟨[], []⟩=T:=by rw [VT.back_nil];cases T;simp
 rw [hr x hY,hb];exact k x hY
theorem aH {b:Bool} {X Y:Prop} (h:b=false) (k:Y):cond b X Y:=by subst h;exact k
theorem aN {b:Bool} {X Y:Prop} (h:b=true) (k:X):cond b X Y:=by subst h;exact k
end
end
section
open Go.RowKit

section
variable {P:Program} {G:aK} {g:Gh} {T:VT} {w:World}
theorem m5 (r:RW g T w) {id size off n:Nat} {es:List (List TV)} {u:Value} (h:cn T size (.row size id off n)=some es) (hx:VR g w (.row size id off n) u):
    ∃g',Evo g w g' w∧RW g' (T.kill id) w∧VR g' w (.vec size es .none) u:=by
  simp only [cn] at h
  split at h
  · rename_i cs hid
    cases hb:(Nat.beq size size&&Nat.ble ((off+n)*size) cs.length) with
    | false=>rw [hb] at h;cases h
    | true=>
      rw [hb] at h;injection h with h;subst h
      simp only [Bool.and_eq_true] at hb
      have hle:=Nat.le_of_ble_eq_true hb.2
      obtain ⟨b,c,h1,h2,h3,h4,h5,rfl⟩:=hx.row_inv
      obtain ⟨b',q1,⟨us,t,q2,q3,q4,q5⟩,q6,q7⟩:=r.obj id _ hid rfl
      rw [h1] at q1;injection q1 with q1;subst q1
      rw [Nat.add_mul] at hle
      have hl:((cs.drop (off*size)).take (n*size)).length=n*size:=by simp;omega
      obtain ⟨k1,k2,k3⟩:=ed hl
      have hv:=(q4.drop (off*size)).take (n*size)
      have hl2:(((us.take cs.length).drop (off*size)).take (n*size)).length=n*size:=by simp;omega
      have hcell:∀(j:Nat) v,(((us.take cs.length).drop (off*size)).take (n*size))[j]?=some v→w.cell? ⟨b,off*size+j,none⟩=some v:=fun j v hv=>by
        rw [World.cell?,q2]
        simp only [List.getElem?_take,List.getElem?_drop] at hv
        split at hv
        · split at hv
          · simpa using hv
          · cases hv
        · cases hv
      have fr:=mK r hid rfl h1
      have e:=Evo.addSt (g:=g) (w:=w) (S:=fun o=>off*size≤o∧o<off*size+n*size) q6
      refine ⟨_,e,(r.kill hid rfl h1).addSt q6 fr.obj (fun k x o hx _ hin=>fr.tl k x hx (.inl ⟨o,hin⟩)) (fun o ho=> ?_), ?_⟩
      · have hj:o-off*size<(((us.take cs.length).drop (off*size)).take (n*size)).length:=by rw [hl2];omega
        have:=hcell (o-off*size) _ (List.getElem?_eq_getElem hj)
        rw [show off*size+(o-off*size)=o by omega] at this
        rw [this];rfl
      · refine .mk_vec (us:=((us.take cs.length).drop (off*size)).take (n*size)) k1.symm h3 h4 k2 trivial (by rw [k3];exact hv.mono e) (fun j hj=> .inr ⟨rfl, ?_⟩) hcell (fun u hu=>q5 u (List.mem_of_mem_drop (List.mem_of_mem_take hu)))
        rw [k3,hl] at hj
        omega
  · cases h
def pB (x:TV) (T:VT):Option (Nat × List (List TV)):=match x with
 | .row size id off n=>(cn T size (.row size id off n)).map fun es=>(size,es)
 | _=>none
theorem VCx.freezeRow {f:FuncId} {xs:List TV} {size:Nat} {es:List (List TV)} (hes:∀f h,bG f h es=es) (h:VCx P G 0 f xs ⟨[], []⟩ fun x T' =>pB x T' =some (size,es)):VCx P G 0 f xs ⟨[], []⟩ fun x T' =>x= .vec size es .none∧T' =⟨[], []⟩:=by
 refine VCx.keepQ 0 0 (Nat.le_refl _) (Nat.le_refl _) ?_
 intro g w us rw0 hG hx
 refine Calls.mono (h g w us rw0 hG hx) ?_
 rintro e w' ⟨v,x,g',T',he,hq,e',r',hv,hfx⟩
 unfold pB at hq
 split at hq
 ·rename_i sz id off n
  simp only [Option.map_eq_some_iff,Prod.mk.injEq] at hq
  obtain ⟨es',h1,rfl,rfl⟩:=hq
  obtain ⟨g2,e2,r2,v2⟩:=m5 r' h1 hv
  exact ⟨v,_,g2,_,he,⟨by simp only [TV.ren,hes,Tok.ren],by simp [VT.keep]⟩,e'.trans e2,r2,v2,⟨by simp,fun i hi=>absurd hi (Nat.not_lt_zero i),fun i o b hi=>absurd hi (Nat.not_lt_zero i)⟩⟩
 ·cases hq
end
end
section
open Go.RowKit

section
variable {P:Program} {G:aK}
def wP (T:VT):List (Nat × TV × Option (VT→VT))→Nat→Option (TV × Option VT)
 | [],_=>none
 | (t,y,g)::l,s=>bif Nat.beq t s then some (y,match g with | some g=>some (g T) | none=>none) else wP T l s
def aA (l:List (Nat × TV × Option (VT→VT))):fq:=fun o _ T=>match o.op with
 | .store _ (.tmp a) _=>wP T l (500000+a)
 | _=>match o.dst with
  | some d=>wP T l d
  | none=>none
end
end
section
open Go.RowKit

def FreeT (x:TV):Prop:=∀g w g' w' u,(∀id b,g.obj id=some b→g'.obj id=some b)→VR g w x u→VR g' w' x u
theorem FreeT.val (v:Value):FreeT (.val v):=fun _ _ _ _ _ _ h=>by cases h;exact .val _
theorem qM {g g' :Gh} {w w' :World} {cs:List TV} {us:List Value} (hc:∀c∈cs,FreeT c) (ho:∀id b,g.obj id=some b→g'.obj id=some b) (h:VRs g w cs us):VRs g' w' cs us:=
 ⟨h.1,fun j x u hx hu=>hc x (List.mem_of_getElem? hx) g w g' w' u ho (h.2 j x u hx hu)⟩
def A2:VO→Prop
 | .cells cs=>∀c∈cs,FreeT c
 | .row cs=>∀c∈cs,FreeT c
 | .map _ _ es _=>∀e∈es,FreeT e.2.1
 | .defd=>True
 | .gone=>True
 | _=>False
theorem Hc {g g' :Gh} {w:World} {b:Nat} {o:VO} (ho:∀id b,g.obj id=some b→g'.obj id=some b) (hf:A2 o) (h:OR g w b o):OR g' w b o:=by
 cases o with
 | cells cs=>obtain ⟨us,t,q1,q2,q3⟩:=h;exact ⟨us,t,q1,qM hf ho q2,q3⟩
 | row cs=>obtain ⟨us,t,q1,q2,q3,q4⟩:=h;exact ⟨us,t,q1,q2,qM hf ho q3,q4⟩
 | map sh look es ck=>
  obtain ⟨vs,q1,q2,q3,q4,q5,q6,q7⟩:=h
  refine ⟨vs,q1,q2,qM (fun c hc=> ?_) ho q3,q4,q5,q6,q7⟩
  obtain ⟨e,he,rfl⟩:=List.mem_map.1 hc
  exact hf e he
 | iter m since seen stepped=>exact hf.elim
 | siter s pos=>exact hf.elim
 | loop st pend σ2 ps asg body=>exact hf.elim
 | defd=>exact h
 | gone=>trivial
theorem A3 {n slot:Nat} {x:TV} {g:Gh} {w:World} {us:List Value} {u:Value} (hl:us.length=n) (hu:us[slot]?=some u) (hx:VR g w x u):VRs g w (aj n [slot] [x]) us:=by
 refine ⟨by simp [aj,iW,gn,hl],fun j y v hy hv=> ?_⟩
 simp only [aj,iW,gn,List.map_map,List.getElem?_map,Option.map_eq_some_iff] at hy
 obtain ⟨i,hi,rfl⟩:=hy
 have e:i=j:=by
  have:=(List.getElem?_eq_some_iff.1 hi).2
  simpa using this.symm
 subst e
 simp only [Function.comp_apply,pA]
 cases hb:Nat.beq slot i with
 | true=>
  have:=Nat.eq_of_beq_eq_true hb
  subst this
  rw [hu] at hv;injection hv with hv;subst hv
  exact hx
 | false=>exact .dead _
section
variable {P:Program} {G:aK}
def yT (n:Nat) (keys:List Nat) (ad:List (Nat × Nat)) (vs0:List TV) (T0 T1:VT) (slot k size:Nat) (es:List (List TV)):br:=fun rd ro σ T D K=>(rd=none∧ro=0∧D= []∧mn ad σ∧(cM ad σ T).2=T0∧Nat.beq σ.length n=true∧pick keys (cM ad σ T).1=vs0∧Nat.ble T.tails.length k=true)∧
 K .normal (aj n [slot] [.row size T1.objs.length 0 es.length]) ⟨T1.objs++ [.row es.flatten],T1.tails.set k (es.length+1,size,false)⟩ []
theorem iG (size:Nat):∀{es:List (List TV)},(∀e∈es,e.length=size)→dk size es.length es.flatten=es
 | [],_=>rfl
 | e::es,h=>by
  have h1:e.length=size:=h e List.mem_cons_self
  have h2:=iG size (es:=es) fun e he=>h e (List.mem_cons_of_mem _ he)
  simp only [List.length_cons,dk,List.flatten_cons]
  rw [List.take_left' h1,List.drop_left' h1,h2]
theorem hZ {T:VT} {size id:Nat} {es:List (List TV)} (ho:T.objs[id]?=some (.row es.flatten)) (hz:∀e∈es,e.length=size):cn T size (.row size id 0 es.length)=some es:=by
 have hl:=bD hz
 have e1:((es.flatten.drop (0*size)).take (es.length*size))=es.flatten:=by
  rw [Nat.zero_mul,List.drop_zero,←hl,List.take_length]
 simp only [cn,ho]
 rw [e1,iG size hz,Nat.beq_refl,Nat.zero_add,hl,Nat.ble_eq_true_of_le (Nat.le_refl _)]
 rfl
theorem VCx.freeze {f:FuncId} {xs:List TV} {T:VT} {size:Nat} {es:List (List TV)} {Q:VT→Prop} (h:VCx P G 0 f xs T fun x T' =>∃id off n,x= .row size id off n∧cn T' size (.row size id off n)=some es∧Q (T'.kill id)):
  VCx P G 0 f xs T fun x T' =>x= .vec size es .none∧Q T' :=by
 intro g w us rw0 hG hx
 refine Calls.mono (h g w us rw0 hG hx) ?_
 rintro e w' ⟨v,x,g',T',he,⟨id,off,n,rfl,h1,hq⟩,e',r',hv,hfx⟩
 obtain ⟨g2,e2,r2,v2⟩:=m5 r' h1 hv
 refine ⟨v,_,g2,_,he,⟨rfl,hq⟩,e'.trans e2,r2,v2,⟨?_,fun i hi=>absurd hi (Nat.not_lt_zero i),fun i o b hi=>absurd hi (Nat.not_lt_zero i)⟩⟩
 have:=hfx.len
 simp only [VT.kill,List.length_set];exact this
end
end
section
open Go.RowKit

section
variable {P:Program} {G:aK} {g:Gh} {T:VT} {w:World}
end
end
section
open Go.RowKit

section
variable {P:Program} {G:aK}
theorem VCx.at1 {f:FuncId} {ro k:Nat} {ys0 ys1:List TV} {o o1:VO} {T:VT} {K:TV→VT→Prop} {Q:TV→VO→List VO→Prop} (hG:jy G) (hro:ro≤k) (ho:T.objs[k]?=some o) (hl:o.live=true) (hren:o.ren (bc [k]) (bc [])=o1) (hy:av (bc [k]) (bc []) ys0=ys1)
  (hv:VCx P G 0 f ys1 ⟨[o1], []⟩ fun x T' =>∃o' l',T' =⟨o' ::l', []⟩∧Q x o' l')
  (hk:∀x o' l',Q x o' l' →K (x.ren (ba T.objs.length [k]) (ba T.tails.length [])) ⟨T.objs.set k (o'.ren (ba T.objs.length [k]) (ba T.tails.length []))++l'.map (VO.ren (ba T.objs.length [k]) (ba T.tails.length [])),T.tails⟩):VCx P G ro f ys0 T K:=by
 have hg:T.give [k] []=⟨[o1], []⟩:=by simp only [VT.give,List.map_cons,List.map_nil,ho,Option.getD_some,hren]
 refine (VCx.lift (xs:=ys1) [k] [] hG (by simp) List.nodup_nil (fun j hj=> ?_) (by simp) (fun i hi=> ?_) hy (by rw [hg];exact hv) (fun x T' hq=> ?_)).mono ?_
 ·obtain rfl:=List.mem_singleton.1 hj;exact ⟨_,ho,hl⟩
 ·obtain rfl:=List.mem_singleton.1 hi;exact hro
 ·obtain ⟨o',l',rfl,_⟩:=hq;exact ⟨by simp,Nat.zero_le _⟩
 ·rintro x T' ⟨y,T2,⟨o',l',rfl,hq⟩,rfl,rfl⟩
  simpa [VT.back,cq] using hk y o' l' hq
end
abbrev Bs:=List (List TV)
def bT (z:Int):List TV:= [.val (.int .u8 z)]
def bV (l:List Int):Bs:=l.map bT
def IsB (b:Bs):Prop:=(∃l:List Int,b=bV l∧∀z∈l,0≤z∧z<256)∧b.length≤1000000
def Of:List TV→Int
 | [.val (.int _ z)]=>z
 | _=>0
theorem IsB.take {b:Bs} (h:IsB b) (n:Nat):IsB (b.take n):=by
 obtain ⟨⟨l,rfl,hl⟩,h2⟩:=h
 exact ⟨⟨l.take n,by simp [bV,List.map_take],fun z hz=>hl z (List.mem_of_mem_take hz)⟩,by rw [List.length_take];omega⟩
theorem IsB.nil:IsB []:=⟨⟨[],rfl,fun _ h=>by simp at h⟩,Nat.zero_le _⟩
theorem wQ (f g:Nat→Option Nat):∀l:List Int,bG f g (bV l)=bV l
 | []=>rfl
 | a::l=>by simp only [bV,List.map_cons,bG];rw [show bG f g (l.map bT)=l.map bT from wQ f g l];rfl
theorem IsB.ren {b:Bs} (h:IsB b) (f g:Nat→Option Nat):bG f g b=b:=by
 obtain ⟨⟨l,rfl,_⟩,_⟩:=h
 exact wQ f g l
theorem IsB.at {b:Bs} (h:IsB b) {j:Nat} {r:List TV} (hr:b[j]?=some r):∃z:Int,r=bT z∧0≤z∧z<256:=by
 obtain ⟨⟨l,rfl,hl⟩,_⟩:=h
 simp only [bV,List.getElem?_map,Option.map_eq_some_iff] at hr
 obtain ⟨z,hz,rfl⟩:=hr
 exact ⟨z,rfl,hl z (List.mem_of_getElem? hz)⟩
theorem IsB.len1 {b:Bs} (h:IsB b):∀e∈b,e.length=1:=fun e he=>by
 obtain ⟨j,hj,rfl⟩:=List.getElem_of_mem he
 obtain ⟨z,hz,_⟩:=h.at (List.getElem?_eq_getElem hj)
 rw [hz];rfl
def JS (n:Int) (b:Bs) (e:Int):Bool:=decide (e=0)&&decide (0≤n)&&decide (n≤b.length)
def NP (n:Int) (b:Bs) (e:Int):Bs:=bif JS n b e then b.drop n.toNat else b
def JT (n:Int) (b:Bs) (e:Int):Int:=bif decide (e=0) then (bif decide (n<0) then 2 else bif decide (n≤b.length) then 0 else 3) else e
section
variable {P:Program} {G:aK}
end
end
section
open Go.RowKit

section
variable {P:Program} {G:aK}
theorem kf (vs:List Value):(vs.map fun v=> [TV.val v]).flatten=vs.map .val:=by
 induction vs with
 | nil=>rfl
 | cons a l ih=>simp [ih]
theorem VCx.ofRetsT {f:FuncId} {xs:List TV} {us:List Value} (hxs:xs.map ce=us.map some) {ty:TypeId} {vs:List Value} (h1:∀v∈vs,v.oneCell' =true) (hm:vs.length≤maxLen)
    (h:∀w,Calls P f us.toArray w (Rets w fun v w' =>w'.ownsRow w.heap.size ty 1 v vs.length vs)):VCx P G 0 f xs ⟨[], []⟩ fun x T' =>x= .vec 1 (vs.map fun v=> [.val v]) .none∧T' =⟨[], []⟩:=by
  intro g w us' r hG hx
  obtain rfl:us' =us:=oC hxs hx
  refine (h w).mono ?_
  rintro e w' ⟨v,rfl,gr,hl,hown⟩
  have r1:=r.gr gr
  have e1:=Evo.of_gr r gr
  rcases hown with ⟨rfl,h0⟩ | ⟨b,cap,cur,rfl,hb,hg,hnc,hcm,hcs,htk⟩
  · have:vs= []:=List.eq_nil_of_length_eq_zero (by omega)
    subst this
    exact ⟨_,_,g,_,rfl,⟨rfl,rfl⟩,e1,r1, .nil trivial,⟨by simp,fun i hi=>absurd hi (Nat.not_lt_zero i),fun i o b hi=>absurd hi (Nat.not_lt_zero i)⟩⟩
  · have hnf:¬g.fr b:=fun hf=>by have:=r.fr b hf;omega
    have hcell:∀(j:Nat) u,vs[j]?=some u→w'.cell? ⟨b,0+j,none⟩=some u:=fun j u hu=>by
      have hj:=(List.getElem?_eq_some_iff.1 hu).1
      unfold World.cell?
      simp only [hg,Nat.zero_add]
      rw [←htk,List.getElem?_take,if_pos (by omega)] at hu
      simpa using hu
    refine ⟨_,_,g.addSt b (fun o=>o<vs.length),_,rfl,⟨rfl,rfl⟩,e1.trans (Evo.addSt hnf),r1.addSt hnf (fun id o h=>by simp at h) (fun k x o hx=>by rw [r1.tout k (Nat.zero_le _)] at hx;cases hx) (fun o ho=> ?_), ?_,⟨by simp,fun i hi=>absurd hi (Nat.not_lt_zero i),fun i o b hi=>absurd hi (Nat.not_lt_zero i)⟩⟩
    · have:=hcell o _ (List.getElem?_eq_getElem ho)
      rw [Nat.zero_add] at this
      rw [this];rfl
    · refine .mk_vec (us:=vs) (by simp) (by simpa using hnc) hcm (fun e he=>by obtain ⟨v,_,rfl⟩:=List.mem_map.1 he;rfl) trivial (by rw [kf];exact VRs.vals _ _ _) (fun j hj=> .inr ⟨rfl, ?_⟩) hcell h1
      rw [kf] at hj
      simpa using hj
end
end
section
open Go.RowKit

section
variable {P:Program} {G:aK}
theorem VCx.ofOwn {f:FuncId} {xs:List TV} {ty:TypeId} {vs:List Value} (h1:∀v∈vs,v.oneCell' =true) (hm:vs.length≤maxLen)
    (h:∀g w us,VRs g w xs us→Calls P f us.toArray w (Rets w fun v w' =>w'.ownsRow w.heap.size ty 1 v vs.length vs)):VCx P G 0 f xs ⟨[], []⟩ fun x T' =>x= .vec 1 (vs.map fun v=> [.val v]) .none∧T' =⟨[], []⟩:=by
  intro g w us r hG hx
  refine (h g w us hx).mono ?_
  rintro e w' ⟨v,rfl,gr,hl,hown⟩
  have r1:=r.gr gr
  have e1:=Evo.of_gr r gr
  rcases hown with ⟨rfl,h0⟩ | ⟨b,cap,cur,rfl,hb,hg,hnc,hcm,hcs,htk⟩
  · have:vs= []:=List.eq_nil_of_length_eq_zero (by omega)
    subst this
    exact ⟨_,_,g,_,rfl,⟨rfl,rfl⟩,e1,r1, .nil trivial,⟨by simp,fun i hi=>absurd hi (Nat.not_lt_zero i),fun i o b hi=>absurd hi (Nat.not_lt_zero i)⟩⟩
  · have hnf:¬g.fr b:=fun hf=>by have:=r.fr b hf;omega
    have hcell:∀(j:Nat) u,vs[j]?=some u→w'.cell? ⟨b,0+j,none⟩=some u:=fun j u hu=>by
      have hj:=(List.getElem?_eq_some_iff.1 hu).1
      unfold World.cell?
      simp only [hg,Nat.zero_add]
      rw [←htk,List.getElem?_take,if_pos (by omega)] at hu
      simpa using hu
    refine ⟨_,_,g.addSt b (fun o=>o<vs.length),_,rfl,⟨rfl,rfl⟩,e1.trans (Evo.addSt hnf),r1.addSt hnf (fun id o h=>by simp at h) (fun k x o hx=>by rw [r1.tout k (Nat.zero_le _)] at hx;cases hx) (fun o ho=> ?_), ?_,⟨by simp,fun i hi=>absurd hi (Nat.not_lt_zero i),fun i o b hi=>absurd hi (Nat.not_lt_zero i)⟩⟩
    · have:=hcell o _ (List.getElem?_eq_getElem ho)
      rw [Nat.zero_add] at this
      rw [this];rfl
    · refine .mk_vec (us:=vs) (by simp) (by simpa using hnc) hcm (fun e he=>by obtain ⟨v,_,rfl⟩:=List.mem_map.1 he;rfl) trivial (by rw [kf];exact VRs.vals _ _ _) (fun j hj=> .inr ⟨rfl, ?_⟩) hcell h1
      rw [kf] at hj
      simpa using hj
end
def eR (l:List Int):List Value:=l.map fun z=> .int .u8 z
theorem iH (l:List Int):bV l=(eR l).map fun v=> [.val v]:=by simp [bV,eR,bT,Function.comp_def]
theorem CS {g:Gh} {w:World} {l:List Int} {tok:Tok} {v:Value} (h:VR g w (.vec 1 (bV l) tok) v) (hne:l≠ []):Rd w 1 v l.length (eR l):=by
  have hlen:(bV l).length=l.length:=by simp [bV]
  have hne2:bV l≠ []:=fun e=>hne (by have:=congrArg List.length e;rw [hlen] at this;exact List.eq_nil_of_length_eq_zero this)
  rcases h.vec_inv with ⟨_,e,_⟩ | ⟨b,o,c,us,rfl,h1,h2,_,_,h4,_,h5,_⟩ | ⟨a,_,e,_⟩
  · exact absurd e hne2
  · have hfl:(bV l).flatten=(eR l).map .val:=by rw [iH,kf]
    rw [hfl] at h4
    have hu:us=eR l:=by
      refine List.ext_getElem? fun j=> ?_
      have hl:us.length=(eR l).length:=by have:=h4.1;simpa using this
      by_cases hj:j<us.length
      · have hx:((eR l).map TV.val)[j]?=some (.val (eR l)[j]):=by rw [List.getElem?_map,List.getElem?_eq_getElem (by omega)];rfl
        have:=(h4.2 j _ us[j] hx (List.getElem?_eq_getElem hj)).val_inv
        rw [List.getElem?_eq_getElem hj,List.getElem?_eq_getElem (by omega),this]
      · rw [List.getElem?_eq_none (by omega),List.getElem?_eq_none (by omega)]
    subst hu
    rw [hlen] at h1 ⊢
    exact ⟨by simp [eR],_,c,rfl,h1,h2,(fun h=>by cases h),fun ad ha=>by injection ha with ha;subst ha;exact ⟨rfl,fun j u hu=>h5 j u hu⟩⟩
  · exact absurd e hne2
end
section
open Go.RowKit

def TVle (x y:TV):Prop:=∀g w u,VR g w x u→VR g w y u
def TVleL:List TV→List TV→Prop
 | [], []=>True
 | x::l,y::m=>TVle x y∧TVleL l m
 | _,_=>False
theorem TVle.refl (x:TV):TVle x x:=fun _ _ _ h=>h
theorem TVle.of_eq {x y:TV} (h:x=y):TVle x y:=h▸TVle.refl x
theorem TVle.nil (size:Nat):TVle (.val (.slice none 0 0)) (.vec size [] .none):=fun _ _ _ h=>by
 obtain rfl:=h.val_inv
 exact .nil trivial
theorem TVle.vec (size:Nat) (es:List (List TV)) (tok:Tok):TVle (.vec size es tok) (.vec size es .none):=fun _ _ _ h=>eQ h
theorem TVleL.refl:∀l,TVleL l l
 | []=>trivial
 | x::l=>⟨TVle.refl x,TVleL.refl l⟩
theorem TVleL.at:∀{l m:List TV},TVleL l m→l.length=m.length∧∀(j:Nat) x y,l[j]?=some x→m[j]?=some y→TVle x y
 | [], [],_=>⟨rfl,fun j _ _ h=>by simp at h⟩
 | a::l,b::m,h=>by
  obtain ⟨h1,h2⟩:=TVleL.at h.2
  refine ⟨by simp [h1],fun j x y hx hy=> ?_⟩
  cases j with
  | zero=>simp at hx hy;subst hx hy;exact h.1
  | succ j=>exact h2 j x y (by simpa using hx) (by simpa using hy)
 | [],_::_,h=>h.elim
 | _::_, [],h=>h.elim
theorem TVleL.vrs {l m:List TV} (h:TVleL l m) {g:Gh} {w:World} {us:List Value} (hv:VRs g w l us):VRs g w m us:=by
 obtain ⟨h1,h2⟩:=h.at
 refine ⟨by rw [hv.1,h1],fun j y u hy hu=> ?_⟩
 have hj:j<l.length:=by rw [h1];exact (List.getElem?_eq_some_iff.1 hy).1
 exact h2 j _ y (List.getElem?_eq_getElem hj) hy g w u (hv.2 j _ u (List.getElem?_eq_getElem hj) hu)
theorem TVle.tup {l m:List TV} (h:TVleL l m):TVle (.tup l) (.tup m):=fun g w u hu=>by
 obtain ⟨us,rfl,hv⟩:=hu.tup_inv
 obtain ⟨h1,h2⟩:=h.vrs hv
 exact .tup h1 h2
theorem TVle.agg {l m:List TV} (h:TVleL l m):TVle (.agg l) (.agg m):=fun g w u hu=>by
 cases hu with
 | agg hl hv=>
  obtain ⟨h1,h2⟩:=h.vrs ⟨hl,hv⟩
  exact .agg h1 h2
theorem VCx.toLe {P:Program} {G:aK} {f:FuncId} {xs:List TV} {T:VT} {y:TV} {Q:VT→Prop} (h:VCx P G 0 f xs T fun x T' =>TVle x y∧Q T'):VCx P G 0 f xs T fun x T' =>x=y∧Q T' :=by
 intro g w us rw0 hG hx
 refine Calls.mono (h g w us rw0 hG hx) ?_
 rintro e w' ⟨v,x,g',T',he,⟨hq,hQ⟩,e',r',hv,hfx⟩
 exact ⟨v,_,g',T',he,⟨rfl,hQ⟩,e',r',hq _ _ _ hv,hfx⟩
end
section
open Go.RowKit

section
variable {P:Program} {G:aK}
theorem yu {ro:Nat} {T:VT} {t e tx:TypeId} {s x:Operand} {l:List (Nat × TV)} {inf:TypeInfo} {z:Value} {q0:List TV} {qs:List (List TV)} {tok:Tok} {id n:Nat} {cs:List TV} (ht:P.underlying t=some (.slice e)) (hi:P.info? e=some inf) (hz:inf.zero=some z) (hzs:z.cells.size=inf.size) (hz1:z.cells.toList.all Value.oneCell' =true)
  (hsl:eL (P.underlying tx)=true) (hs:bb G l s= .row inf.size id 0 n) (ho:T.objs[id]?=some (.row cs)) (hro:ro≤id) (hn:n*inf.size≤cs.length) (hx:bb G l x= .vec inf.size (q0::qs) tok) (hb:(n+(q0::qs).length)*(inf.bytes+1)≤140737488355328):
  aB P G ro T (.call ⟨.builtin .append, #[s,x], #[t,tx]⟩) l (.row inf.size T.objs.length 0 (n+(q0::qs).length)) ((T.kill id).newRow (cs.take (n*inf.size)++(q0::qs).flatten)):=by
 refine .mk ?_
 have h1:bq P (.call ⟨.builtin .append, #[s,x], #[t,tx]⟩) (bb G l)=none:=by simp [bq,dX]
 have h2:bf P T (.call ⟨.builtin .append, #[s,x], #[t,tx]⟩) (bb G l)=none:=by simp [bf,dx,iZ]
 have hr:cn T inf.size (.vec inf.size (q0::qs) tok)=some (q0::qs):=by simp [cn,Nat.beq_refl]
 have h4:mO P T t tx (.row inf.size id 0 n) (.vec inf.size (q0::qs) tok)=none:=by simp [mO,ht]
 have h3:mL P ro T t tx (.row inf.size id 0 n) (.vec inf.size (q0::qs) tok)=some (.row inf.size T.objs.length 0 (n+(q0::qs).length),(T.kill id).newRow (cs.take (n*inf.size)++(q0::qs).flatten)):=by
  unfold mL
  simp only [ht,hi,hz,hr,hzs,decide_true,hz1,hsl,Bool.and_self,cond_true,Nat.beq_refl,ho,Nat.ble_eq_true_of_le hro,Nat.ble_eq_true_of_le hn,Nat.ble_eq_true_of_le hb]
 have h5:rM P ro T t tx (.row inf.size id 0 n) (.vec inf.size (q0::qs) tok)=none:=rfl
 simp only [fw,h1,h2,kY,hs,hx,hsl,h4,h5,h3,cond_true]
end
end
section
open Go.RowKit

end
section
open Go.RowKit

section
variable {P:Program} {G:aK}
end
end
section
open Go.RowKit

section
variable {P:Program} {G:aK}
theorem vB {j len:Nat} (h:j<len) (hlen:len≤2000000):IntKind.wrap IntKind.i64 (((j:Nat):Int)+(1:Int))=((j+1:Nat):Int):=by
 simp only [IntKind.wrap,IntKind.bits,IntKind.signed];simp;omega
theorem Hd {f:FuncId} {id:Nat} (hc:gm id (am P f id)=true) (n:Nat) (keys:List Nat) (sl:Int→List TV) (T:VT) (len:Nat) (Post:Exit→List TV→VT→Prop)
  (hbody:∀j:Nat,j≤len→VWx P G none 0 (bd P f id) (aj n keys (sl j)) T [] (bA keys fun e vs T' D m=>D= []∧m=n∧match e with
   | .normal=>j<len∧((T' =T∧vs=sl (j+1:Nat))∨(T'.keep T.objs.length T.tails.length=T∧av (au T.objs.length) (au T.tails.length) vs=sl (j+1:Nat)))
   | .exit i=>cond (Nat.beq i id) (Post .normal vs T') (Post (.exit i) vs T')
   | e=>Post e vs T')):
  ∀K:KX,(∀e vs T',Post e vs T' →K e (aj n keys vs) T' [])→VWx P G none 0 (am P f id) (aj n keys (sl (0:Nat))) T [] K:=by
 intro K hK
 refine bK (f:=f) (id:=id) hc n keys (fun j:Nat=>len-j) (fun j:Nat=>sl j) (fun _=>T) (fun j=>j≤len) T.objs.length T.tails.length (fun _ _=>⟨Nat.le_refl _,Nat.le_refl _⟩) Post (fun j hj=> ?_) 0 (Nat.zero_le _) K hK
 refine (hbody j hj).mono fun e σ T' D hq=> ?_
 obtain ⟨h1,h2,h3⟩:=hq
 refine ⟨h1,h2, ?_⟩
 cases e
 case normal=>
  obtain ⟨hlt,h4⟩:=h3
  refine ⟨j+1,hlt,by show len-(j+1)<len-j;omega, ?_⟩
  exact h4
 case exit i=>exact h3
 all_goals exact h3
end
end
section
open Go.RowKit

section
variable {P:Program} {G:aK}
end
def Og (B:Bs) (n:Int):Bs:=B.drop n.toNat
def NQ (m:Int) (B:Bs) (n e:Int):Int:=bif JS m (Og B n) e then n+m else n
section
variable {P:Program} {G:aK}
end
end
section
open Go.RowKit

end
section
open Go.RowKit

def OE (z:Int):TV:= .val (.int .u8 z)
section
variable {cs:List TV} {off n:Nat}
end
section
variable {P:Program} {G:aK}
end
end
section
open Go.RowKit

section
variable {P:Program} {G:aK}
theorem sg {ro:Nat} {T:VT} {t e tn:TypeId} {s x:Operand} {l:List (Nat × TV)} {inf:TypeInfo} {z:Value} {kn kq:IntKind} {m:Int} (ht:P.underlying t=some (.slice e)) (htn:P.underlying tn=some (.int kn)) (hi:P.info? e=some inf) (hz:inf.zero=some z) (hzs:z.cells.size=inf.size) (h0s:0<inf.size)
  (hz1:z.cells.toList.all Value.oneCell' =true) (hs:bb G l s= .val (.slice none 0 0)) (hx:bb G l x= .val (.int kq m)) (h0:0<m) (hb:m.toNat*(inf.bytes+1)≤140737488355328):
  aB P G ro T (.call ⟨.builtin .append, #[s,x], #[t,tn]⟩) l (.row inf.size T.objs.length 0 m.toNat) (T.newRow ((Builtin.zeroCells z.cells m.toNat).toList.map .val)):=by
 refine .mk ?_
 have h1:bq P (.call ⟨.builtin .append, #[s,x], #[t,tn]⟩) (bb G l)=none:=by simp [bq,dX]
 have h2:bf P T (.call ⟨.builtin .append, #[s,x], #[t,tn]⟩) (bb G l)=none:=by simp [bf,dx,iZ]
 have hsl:eL (P.underlying tn)=false:=by rw [htn];rfl
 have h3:rK P T t tn (.val (.slice none 0 0)) (.val (.int kq m))=some (.row inf.size T.objs.length 0 m.toNat,T.newRow ((Builtin.zeroCells z.cells m.toNat).toList.map .val)):=by
  unfold rK
  simp only [ht,htn,hi,hz,hzs,decide_eq_true h0,decide_eq_true h0s,decide_true,hz1,Nat.ble_eq_true_of_le hb,Bool.and_self,cond_true]
 simp only [fw,h1,h2,kY,hs,hx,hsl,h3,cond_false]
theorem A4 {ro:Nat} {T:VT} {t e tx:TypeId} {s x:Operand} {l:List (Nat × TV)} {inf:TypeInfo} {z:Value} {q0:List TV} {qs:List (List TV)} {id n:Nat} {cs:List TV} (ht:P.underlying t=some (.slice e)) (hi:P.info? e=some inf) (hz:inf.zero=some z) (hzs:z.cells.size=inf.size) (hz1:z.cells.toList.all Value.oneCell' =true)
  (hsl:eL (P.underlying tx)=true) (hs:bb G l s= .row inf.size id 0 n) (ho:T.objs[id]?=some (.row cs)) (hro:ro≤id) (hn:n*inf.size≤cs.length) (hr:cn T inf.size (bb G l x)=some (q0::qs)) (hb:(n+(q0::qs).length)*(inf.bytes+1)≤140737488355328):
  aB P G ro T (.call ⟨.builtin .append, #[s,x], #[t,tx]⟩) l (.row inf.size T.objs.length 0 (n+(q0::qs).length)) ((T.kill id).newRow (cs.take (n*inf.size)++(q0::qs).flatten)):=by
 refine .mk ?_
 have h1:bq P (.call ⟨.builtin .append, #[s,x], #[t,tx]⟩) (bb G l)=none:=by simp [bq,dX]
 have h2:bf P T (.call ⟨.builtin .append, #[s,x], #[t,tx]⟩) (bb G l)=none:=by simp [bf,dx,iZ]
 have h4:mO P T t tx (.row inf.size id 0 n) (bb G l x)=none:=by simp [mO,ht]
 have h5:rM P ro T t tx (.row inf.size id 0 n) (bb G l x)=none:=rfl
 have h3:mL P ro T t tx (.row inf.size id 0 n) (bb G l x)=some (.row inf.size T.objs.length 0 (n+(q0::qs).length),(T.kill id).newRow (cs.take (n*inf.size)++(q0::qs).flatten)):=by
  unfold mL
  simp only [ht,hi,hz,hr,hzs,decide_true,hz1,hsl,Bool.and_self,cond_true,Nat.beq_refl,ho,Nat.ble_eq_true_of_le hro,Nat.ble_eq_true_of_le hn,Nat.ble_eq_true_of_le hb]
 simp only [fw,h1,h2,kY,hs,hsl,h4,h5,h3,cond_true]
end
end
section
open Go.RowKit

end
section
open Go.RowKit

section
variable {P:Program} {G:aK}
end

section
variable {g:Gh} {w:World}
end

section
variable {P:Program} {G:aK}
end
end
section
open Go.RowKit

section
variable {P:Program} {G:aK}
end
end
section
open Go.RowKit

section
variable {P:Program} {G:aK}
theorem VCx.ofOwnT {f:FuncId} {xs:List TV} {ty:TypeId} {vs:List Value} (h1:∀v∈vs,v.oneCell' =true) (hm:vs.length≤maxLen)
    (h:∀g w us,VRs g w xs us→Calls P f us.toArray w (Rets w fun v w' =>w'.ownsRow w.heap.size ty 1 v vs.length vs)):VCx P G 0 f xs ⟨[], []⟩ fun x T' =>x= .vec 1 (vs.map fun v=> [.val v]) (.tail 0 0)∧T' =⟨[], [(0,1,false)]⟩:=by
  intro g w us r hG hx
  refine (h g w us hx).mono ?_
  rintro e w' ⟨v,rfl,gr,hl,hown⟩
  have r1:=r.gr gr
  have e1:=Evo.of_gr r gr
  rcases hown with ⟨rfl,h0⟩ | ⟨b,cap,cur,rfl,hb,hg,hnc,hcm,hcs,htk⟩
  · have:vs= []:=List.eq_nil_of_length_eq_zero (by omega)
    subst this
    obtain ⟨g2,e2,r2,h2⟩:=r1.newTail 1 false
    exact ⟨_,_,g2,_,rfl,⟨rfl,rfl⟩,e1.trans e2,r2, .nil ⟨_,h2,Nat.le_refl _,rfl⟩,⟨by simp,fun i hi=>absurd hi (Nat.not_lt_zero i),fun i o b hi=>absurd hi (Nat.not_lt_zero i)⟩⟩
  · have fs:=r.fresh hb
    have hcell:∀(j:Nat) u,vs[j]?=some u→w'.cell? ⟨b,0+j,none⟩=some u:=fun j u hu=>by
      have hj:=(List.getElem?_eq_some_iff.1 hu).1
      unfold World.cell?
      simp only [hg,Nat.zero_add]
      rw [←htk,List.getElem?_take,if_pos (by omega)] at hu
      simpa using hu
    have hsz:cur.size=cap:=by simpa using hcs
    have hnone:∀k,g.tail k=none:=fun k=>r1.tout k (Nat.zero_le _)
    obtain ⟨x,hxd⟩:∃x:Tl,x=⟨b,vs.length,cap,1,0,ty,w'.heap.size,false,false⟩:=⟨_,rfl⟩
    have hgrow:∀y,g.tail 0=some y→y.e<x.e∧x.size=y.size∧x.lo=y.lo:=fun y hy=>by rw [hnone] at hy;cases hy
    have hlo:g.tail 0=none→w'.heap.size≤x.lo:=fun _=>by rw [hxd];exact Nat.le_refl _
    have hfz:∀o,o<cap→(w'.cell? ⟨b,o,none⟩).isSome=true∧w'.frozen? ⟨b,o,none⟩=false:=fun o ho=>by
      refine ⟨?_,by simp [World.frozen?,hg]⟩
      unfold World.cell?
      simp only [hg]
      rw [Array.getElem?_eq_getElem (by omega)];rfl
    have r2:=r1.setTail (T' :=⟨[], [(0,1,false)]⟩) (k:=0) (x:=x) rfl (.inl ⟨by rw [hxd];rfl,rfl⟩)
      (fun c o hin=>by
        rw [hxd] at hin
        obtain ⟨rfl,h2,h3⟩:=hin
        exact ⟨(hfz o h3).1,(hfz o h3).2,fs.st o,fs.fr⟩)
      (fun i oi c hi=>by simp at hi) (fun j y c _ hy=>by rw [hnone] at hy;cases hy) hgrow hlo
      (fun ho=>by rw [hxd] at ho;cases ho) (fun ho=>by rw [hxd] at ho;rcases ho with ho | ho<;>cases ho) (by rw [hxd];exact Nat.le_refl _)
    have e2:=e1.trans (Evo.setTail (w:=w') (x:=x) hgrow hlo)
    have r3:=r2.addSt (b:=b) (S:=fun o=>o<vs.length) fs.fr (fun id o hi=>by simp at hi)
      (fun k y o hy ho hin=>by
        by_cases hk:k=0
        · subst hk
          rw [jx] at hy
          injection hy with hy
          rw [←hy,hxd] at hin
          have:=hin.2.1
          simp only at this
          omega
        · have:g.tail k=some y:=by simpa [Gh.setTail,hk] using hy
          rw [hnone] at this;cases this)
      (fun o ho=>(hfz o (by omega)).1)
    have e3:=e2.trans (Evo.addSt (w:=w') (b:=b) (S:=fun o=>o<vs.length) (show ¬(g.setTail 0 x).fr b from fs.fr))
    refine ⟨_,_,_,_,rfl,⟨rfl,rfl⟩,e3,r3, ?_,⟨by simp,fun i hi=>absurd hi (Nat.not_lt_zero i),fun i o b hi=>absurd hi (Nat.not_lt_zero i)⟩⟩
    refine .mk_vec (us:=vs) (by simp) (by simpa using hnc) hcm (fun e he=>by obtain ⟨v,_,rfl⟩:=List.mem_map.1 he;rfl)
      ⟨x,jx g 0 x,Nat.zero_le _,by rw [hxd],fun _ _=>by rw [hxd];exact ⟨rfl,by simp,by simp⟩,fun _ hbn=>by rw [hxd] at hbn;cases hbn⟩
      (by rw [kf];exact VRs.vals _ _ _) (fun j hj=> .inr ⟨rfl, ?_⟩) hcell h1
    rw [kf] at hj
    simpa using hj
theorem ia {T:VT} {size id n:Nat} {es:List (List TV)} (ho:T.objs[id]?=some (.row es.flatten)) (hz:∀e∈es,e.length=size) (hn:n=es.length):pB (.row size id 0 n) T=some (size,es):=by
 subst hn
 have hfl:es.flatten.length=es.length*size:=bD hz
 have hb:Nat.ble ((0+es.length)*size) es.flatten.length=true:=by rw [hfl,Nat.zero_add];exact Nat.ble_eq_true_of_le (Nat.le_refl _)
 simp only [pB,cn,ho,Nat.beq_refl,hb,Bool.and_self,cond_true,Nat.zero_mul,List.drop_zero]
 rw [List.take_of_length_le (by omega),iG size hz]
 rfl
theorem VCx.argsLe {ro:Nat} {f:FuncId} {xs ys:List TV} {T:VT} {Q:TV→VT→Prop} (hle:TVleL ys xs) (h:VCx P G ro f xs T Q):VCx P G ro f ys T Q:=fun g w us r hG hx=>h g w us r hG (hle.vrs hx)
theorem VCx.liftTail {ro:Nat} {f:FuncId} {xs ys:List TV} {T:VT} {b:List (List TV)} {K:TV→VT→Prop} (hv:jy G) (h:VCx P G 0 f xs ⟨[], []⟩ fun x T' =>x= .vec 1 b (.tail 0 0)∧T' =⟨[], [(0,1,false)]⟩) (hx:av (bc []) (bc []) ys=xs) (hy:∀f h,bG f h b=b) (k:K (.vec 1 b (.tail T.tails.length 0)) {T with tails:=T.tails++ [(0,1,false)]}):VCx P G ro f ys T K:=by
 refine (VCx.lift (T:=T) [] [] hv List.nodup_nil List.nodup_nil (by simp) (by simp) (by simp) hx (by rw [VT.give_nil];exact h) (fun _ _ _=>⟨Nat.zero_le _,Nat.zero_le _⟩)).mono ?_
 rintro z T' ⟨x,T'',⟨rfl,rfl⟩,rfl,rfl⟩
 rw [VT.back_nil]
 simpa [TV.ren,Tok.ren,hy,ba] using k
theorem VCx.atKeep {f:FuncId} {ro i:Nat} {ys0 ys1:List TV} {o:VO} {T:VT} {K:TV→VT→Prop} {R:TV→Prop} (hG:jy G) (hro:ro≤i) (ho:T.objs[i]?=some o) (hl:o.live=true) (hren:∀f g,o.ren f g=o) (hy:TVleL (av (bc [i]) (bc []) ys0) ys1)
  (hv:VCx P G 0 f ys1 ⟨[o], []⟩ fun x T' =>R x∧T' =⟨[o], []⟩) (hx:∀x,R x→(∀f g,x.ren f g=x)∧K x T):VCx P G ro f ys0 T K:=by
 have hs:T.objs.set i o=T.objs:=by
  refine List.ext_getElem? fun j=> ?_
  by_cases hj:i=j
  ·subst hj
   rw [List.getElem?_set_self (List.getElem?_eq_some_iff.1 ho).1,ho]
  ·rw [List.getElem?_set_ne hj]
 refine VCx.at1 (o1:=o) (Q:=fun x o' l' =>R x∧o' =o∧l' = []) hG hro ho hl (hren _ _) rfl (VCx.argsLe hy (hv.mono ?_)) ?_
 ·rintro x T' ⟨h1,rfl⟩
  exact ⟨_,_,rfl,h1,rfl,rfl⟩
 ·rintro x o' l' ⟨h1,rfl,rfl⟩
  obtain ⟨h2,h3⟩:=hx x h1
  rw [h2,hren,hs,List.map_nil,List.append_nil]
  exact h3
end
end
section
open Go.RowKit

section
variable {P:Program} {G:aK}
end
end
section
open Go.RowKit

def Gd (w w' :World):Prop:=Gr w w' ∧w.drawn≤w'.drawn
theorem Gd.grow {w w' :World} (h:Gd w w'):∃q os,w' =Go.Sort.grow (w.drewN q) os:=by
  obtain ⟨g,hd⟩:=h
  unfold Gr at g
  refine ⟨w'.drawn-w.drawn,w'.heap.extract w.heap.size w'.heap.size, ?_⟩
  have hh:w'.heap=w.heap++w'.heap.extract w.heap.size w'.heap.size:=by
    apply Array.ext_getElem?
    intro i
    by_cases hi:i<w.heap.size
    · rw [Array.getElem?_append_left hi,g.block i hi]
    · rw [Array.getElem?_append_right (by omega),Array.getElem?_extract]
      by_cases hi2:i<w'.heap.size
      · rw [if_pos (by simp;omega),show w.heap.size+(i-w.heap.size)=i by omega]
      · rw [if_neg (by omega),Array.getElem?_eq_none (by omega)]
  have ho:=g.os;have ht:=g.tape;have hp:=g.output
  cases w';cases w
  simp only [Go.Sort.grow,World.drewN] at*
  subst ho ht hp
  congr 1
  omega
theorem Gd.alloc {a w:World} (h:Gd a w) (o:Obj):Gd a (w.alloc o):=⟨h.1.alloc o,h.2⟩
theorem Gd.drew {a w:World} (h:Gd a w):Gd a w.drew:=⟨h.1.drew,Nat.le_trans h.2 (Nat.le_succ _)⟩
theorem Gd.refl (w:World):Gd w w:=⟨Gr.refl w,Nat.le_refl _⟩
theorem Gd.trans {a b c:World} (h:Gd a b) (k:Gd b c):Gd a c:=⟨h.1.trans k.1,Nat.le_trans h.2 k.2⟩
end
section
open Go.RowKit Go.Sort
variable {α:Type} [Inhabited α]

theorem yU (enc:α→List Value) (k:Nat) (hk:∀x,(enc x).length=k):∀(l:List α) (i c:Nat),i<l.length→c<k→(l.flatMap enc)[i*k+c]?=(enc l[i]!)[c]?
 | [],i,c,h,_=>by simp at h
 | x::r,0,c,_,hc=>by
  rw [List.flatMap_cons,List.getElem?_append_left (by rw [hk];omega)]
  simp
 | x::r,i+1,c,h,hc=>by
  rw [List.flatMap_cons,List.getElem?_append_right (by rw [hk,Nat.add_mul];omega),hk,show (i+1)*k+c-k=i*k+c by rw [Nat.add_mul];omega,
   yU enc k hk r i c (by simpa using h) hc]
  simp
omit [Inhabited α] in
theorem qN (enc:α→List Value) (k:Nat) (hk:∀x,(enc x).length=k) (l:List α):(l.flatMap enc).length=l.length*k:=by
 induction l with
 | nil=>simp
 | cons x r ih=>rw [List.flatMap_cons,List.length_append,hk,ih,List.length_cons,Nat.add_mul];omega
theorem si (enc:α→List Value) (k:Nat) (hk:∀x,(enc x).length=k) (d:Array α) (t:Nat) (ht:t<d.size*k):(d.toList.flatMap enc)[t]?=some (flatK enc k d)[t]!:=by
 have k0:0<k:=by
  rcases Nat.eq_zero_or_pos k with h | h
  ·subst h;simp at ht
  ·exact h
 have hi:t/k<d.size:=(Nat.div_lt_iff_lt_mul k0).2 ht
 have hc:t%k<k:=Nat.mod_lt _ k0
 have e:t/k*k+t%k=t:=by rw [Nat.mul_comm];exact Nat.div_add_mod t k
 have h:=yU enc k hk d.toList (t/k) (t%k) (by simpa using hi) hc
 rw [e] at h
 rw [h,get_flatK enc k d t ht]
 have e2:d.toList[t/k]! =d[t/k]!:=by simp [hi]
 rw [e2,getElem!_pos (enc d[t/k]!) (t%k) (by rw [hk];exact hc),List.getElem?_eq_getElem]

theorem CT (enc:α→List Value) (k:Nat) (hk:∀x,(enc x).length=k) {w:World} {base:Nat} {e:TypeId} {v:Value} (d:Array α) (h:w.ownsRow base e k v d.size (d.toList.flatMap enc)) (hn:0<d.size):
  ∃g cap,v= .slice (some ⟨g,0,none⟩) d.size cap∧base≤g∧g<w.heap.size∧HoldsK enc k w g 0 d:=by
 obtain ⟨hl,hx⟩:=h
 rcases hx with ⟨_,h0⟩ | ⟨g,cap,cur,rfl,hb,hg,hnc,hcm,hcs,htk⟩
 ·omega
 ·refine ⟨g,cap,rfl,hb,(Array.getElem?_eq_some_iff.1 hg).1, ?_⟩
  intro j hj
  rw [size_flatK] at hj
  have h1:=si enc k hk d j hj
  rw [←htk] at h1
  rw [List.getElem?_take,if_pos hj] at h1
  constructor
  ·unfold World.cell?
   simp only [hg,Nat.zero_add]
   simpa using h1
  ·unfold World.frozen?
   simp [hg]

end
section
open Go.RowKit Go.Sort

section
variable {α:Type} [Inhabited α]
theorem He (w:World) (os:Array Obj):Gr w (Sort.grow w os):=⟨rfl,rfl,rfl,by simp [Sort.grow],fun k hk=>by simp [Sort.grow,Array.getElem?_append,hk]⟩
end
end
section
open Go.RowKit

section
variable {P:Program} {G:aK}
def Ga (size:Nat) (es:List (List TV)) (x:TV) (T' :VT):Prop:=(x= .val (.slice none 0 0)∧es= [])∨(∃tok,x= .vec size es tok)∨pB x T' =some (size,es)
theorem VCx.toVec {f:FuncId} {xs:List TV} {size:Nat} {es:List (List TV)} (hes:∀f h,bG f h es=es) (h:VCx P G 0 f xs ⟨[], []⟩ fun x T' =>Ga size es x T'):VCx P G 0 f xs ⟨[], []⟩ fun x T' =>x= .vec size es .none∧T' =⟨[], []⟩:=by
 refine VCx.keepQ 0 0 (Nat.le_refl _) (Nat.le_refl _) ?_
 intro g w us rw0 hG hx
 refine Calls.mono (h g w us rw0 hG hx) ?_
 rintro e w' ⟨v,x,g',T',he,hq,e',r',hv,hfx⟩
 have hk:∀T2:VT,(TV.vec size es Tok.none).ren (au 0) (au 0)= .vec size es .none∧T2.keep 0 0=⟨[], []⟩:=fun T2=>⟨by simp only [TV.ren,hes,Tok.ren],by simp [VT.keep]⟩
 have hf:∀(T2:VT),Fix 0 g ⟨[], []⟩ w T2 w' :=fun T2=>⟨by simp,fun i hi=>absurd hi (Nat.not_lt_zero i),fun i o b hi=>absurd hi (Nat.not_lt_zero i)⟩
 rcases hq with ⟨rfl,rfl⟩ | ⟨tok,rfl⟩ | hq
 ·obtain rfl:=hv.val_inv
  exact ⟨_,_,g',T',he,hk _,e',r', .nil trivial,hf _⟩
 ·exact ⟨v,_,g',T',he,hk _,e',r',eQ hv,hf _⟩
 ·unfold pB at hq
  split at hq
  ·rename_i sz id off n
   simp only [Option.map_eq_some_iff,Prod.mk.injEq] at hq
   obtain ⟨es',h1,rfl,rfl⟩:=hq
   obtain ⟨g2,e2,r2,v2⟩:=m5 r' h1 hv
   exact ⟨v,_,g2,_,he,hk _,e'.trans e2,r2,v2,hf _⟩
  ·cases hq
end
end
section

theorem JU (a k:Nat) (ha:a<2^32) (hk:k≤32):a&&&(2^32-2^k)=a/2^k*2^k:=by
  have e:2^32-2^k=(2^(32-k)-1)<<<k:=by
    rw [Nat.shiftLeft_eq,Nat.sub_mul,←Nat.pow_add,Nat.one_mul]
    congr 2;omega
  have hlt:a>>>k<2^(32-k):=by
    rw [Nat.shiftRight_eq_div_pow]
    apply Nat.div_lt_of_lt_mul
    rw [←Nat.pow_add]
    have:k+(32-k)=32:=by omega
    rw [this];exact ha
  have h2:a/2^k*2^k=((a>>>k)&&&(2^(32-k)-1))<<<k:=by
    rw [Nat.and_two_pow_sub_one_eq_mod,Nat.mod_eq_of_lt hlt,Nat.shiftRight_eq_div_pow,Nat.shiftLeft_eq]
  rw [h2,e]
  apply Nat.eq_of_testBit_eq
  intro i
  simp only [Nat.testBit_and,Nat.testBit_shiftLeft,Nat.testBit_shiftRight]
  by_cases h:k≤i
  · have:k+(i-k)=i:=by omega
    simp [h,this]
  · simp [h]

def cl (n:Int):Nat:=if n<0 then 0 else if 32<n then 32 else n.toNat
theorem A5 (n:Int):cl n≤32:=by unfold cl;split;omega;split<;>omega
theorem M3 (n:Int):cl (cl n:Int)=cl n:=by
 have:=A5 n
 generalize cl n=k at*
 unfold cl
 rw [if_neg (by omega),if_neg (by omega)];omega
def kg (n:Int):Nat:=2^32-2^(32-cl n)
theorem Gb (n:Int):kg n<4294967296:=by
 have:0<2^(32-cl n):=Nat.two_pow_pos _
 unfold kg;omega
def hd (a:Nat) (n:Int):Nat:=a/2^(32-cl n)*2^(32-cl n)
theorem JV (a:Nat) (n:Int) (ha:a<4294967296):a&&&kg n=hd a n:=JU a _ ha (by omega)
theorem ki (n:Int):(n<0∧cl n=0)∨(32<n∧cl n=32)∨(0≤n∧n≤32∧(cl n:Int)=n):=by
 unfold cl
 by_cases h0:n<0
 ·exact .inl ⟨h0,by simp [h0]⟩
 ·by_cases h1:32<n
  ·exact .inr (.inl ⟨h1,by simp [h0,h1]⟩)
  ·exact .inr (.inr ⟨by omega,by omega,by simp [h0,h1];omega⟩)

def tl (b:Nat) (m:Int):Nat:=hd b m ||| (4294967295-kg m)
theorem oF (k i:Nat) (hk:k≤32):(2^32-2^(32-k)).testBit i=(decide (32-k≤i)&&decide (i<32)):=by
 have e:2^32-2^(32-k)=(2^k-1)<<<(32-k):=by
  rw [Nat.shiftLeft_eq,Nat.sub_mul,←Nat.pow_add,Nat.one_mul]
  congr 2;omega
 rw [e,Nat.testBit_shiftLeft,Nat.testBit_two_pow_sub_one]
 by_cases h:32-k≤i
 ·simp [h];omega
 ·simp [h]
theorem Hf (k:Nat) (hk:k<32):(2^32-2^(32-k)) ||| 2^(31-k)=2^32-2^(32-(k+1)):=by
 apply Nat.eq_of_testBit_eq
 intro i
 rw [Nat.testBit_or,oF k i (by omega),oF (k+1) i (by omega),Nat.testBit_two_pow]
 rw [Bool.eq_iff_iff]
 simp
 omega
end
section
open Go.RowKit Go.Sort

section
variable {α:Type}
theorem VRs.flatMap {g:Gh} {w:World} {encT:α→List TV} {enc:α→List Value}:∀{l:List α},(∀x∈l,VRs g w (encT x) (enc x))→VRs g w (l.flatMap encT) (l.flatMap enc)
 | [],_=>VRs.nil _ _
 | a::l,h=>by
  rw [List.flatMap_cons,List.flatMap_cons]
  exact VRs.app (h a List.mem_cons_self) (VRs.flatMap fun x hx=>h x (List.mem_cons_of_mem _ hx))
theorem oG (encT:α→List TV) (k:Nat) (hk:∀x,(encT x).length=k) (l:List α):(l.flatMap encT).length=l.length*k:=by
 induction l with
 | nil=>simp
 | cons x r ih=>rw [List.flatMap_cons,List.length_append,hk,ih,List.length_cons,Nat.add_mul];omega
variable [Inhabited α]
theorem CU (encT:α→List TV) (enc:α→List Value) (k:Nat) (hkT:∀x,(encT x).length=k) (hk:∀x,(enc x).length=k) (h1:∀x,∀v∈enc x,v.oneCell' =true) {l l' :List α} (hp:l'.Perm l) {g:Gh} {T:VT} {w w' :World} {id b n:Nat} {os:Array Obj} (r:RW g T w)
    (hid:T.objs[id]?=some (.row (l.flatMap encT))) (hb:g.obj id=some b) (hv:∀x∈l,VRs g w (encT x) (enc x)) (hw:w' =sortWorldK enc k w b 0 n l'.toArray os):
    Evo g w g w' ∧RW g {T with objs:=T.objs.set id (.row (l'.flatMap encT))} w' :=by
  have hlen:l'.length=l.length:=hp.length_eq
  obtain ⟨b',q1,⟨us,ty,q2,q3,q4,q5⟩,_⟩:=r.obj id _ hid rfl
  rw [hb] at q1;injection q1 with q1;subst q1
  have hfl:(l.flatMap encT).length=l.length*k:=oG encT k hkT l
  have hflT:(l'.flatMap encT).length=l.length*k:=by rw [oG encT k hkT,hlen]
  have hfl' :(l'.flatMap enc).length=l.length*k:=by rw [qN enc k hk,hlen]
  have hF:(flatK enc k l'.toArray).size=l.length*k:=by simp [hlen]
  have hle:l.length*k≤us.length:=by simpa [hfl] using q3
  have hXs:(putCells _root_.id 0 (flatK enc k l'.toArray) us.toArray).size=us.length:=by simp [putCells]
  have hX:∀j,j<us.length→(putCells _root_.id 0 (flatK enc k l'.toArray) us.toArray)[j]?=if j<l.length*k then (l'.flatMap enc)[j]? else us[j]?:=fun j hj=>by
    simp only [putCells,Array.getElem?_mapIdx,List.getElem?_toArray,Nat.zero_le,true_and,Nat.zero_add,Nat.sub_zero,hF]
    rw [List.getElem?_eq_getElem hj]
    by_cases h:j<l.length*k
    · simp only [if_pos h,Option.map_some,_root_.id]
      have:=si enc k hk l'.toArray j (by simpa [hlen] using h)
      simpa using this.symm
    · simp only [if_neg h,Option.map_some]
  have hw1:(putRowK enc k (Sort.ahead w n) b 0 l'.toArray).heap=w.heap.modify b (onCells (putCells _root_.id 0 (flatK enc k l'.toArray))):=rfl
  have hoth:∀c,c≠b→(putRowK enc k (Sort.ahead w n) b 0 l'.toArray).heap[c]?=w.heap[c]?:=fun c hc=>by rw [hw1,Array.getElem?_modify,if_neg (Ne.symm hc)]
  have hbk:(putRowK enc k (Sort.ahead w n) b 0 l'.toArray).heap[b]?=some (.cells (putCells _root_.id 0 (flatK enc k l'.toArray) us.toArray) ty (0,0)):=by
    rw [hw1,Array.getElem?_modify,if_pos rfl,q2];rfl
  have hg:Gr (putRowK enc k (Sort.ahead w n) b 0 l'.toArray) w' :=by subst hw;exact He _ _
  have hos:(putRowK enc k (Sort.ahead w n) b 0 l'.toArray).os=w.os∧(putRowK enc k (Sort.ahead w n) b 0 l'.toArray).tape=w.tape∧(putRowK enc k (Sort.ahead w n) b 0 l'.toArray).output=w.output:=⟨rfl,rfl,rfl⟩
  have hsz:(putRowK enc k (Sort.ahead w n) b 0 l'.toArray).heap.size=w.heap.size:=by rw [hw1];simp
  generalize putRowK enc k (Sort.ahead w n) b 0 l'.toArray=w1 at*
  generalize putCells _root_.id 0 (flatK enc k l'.toArray) us.toArray=X at*
  have e:X.toList.take (l'.flatMap encT).length=l'.flatMap enc:=by
    apply List.ext_getElem?
    intro j
    rw [hflT,List.getElem?_take]
    by_cases h:j<l.length*k
    · rw [if_pos h,Array.getElem?_toList,hX j (by omega),if_pos h]
    · rw [if_neg h,List.getElem?_eq_none (by omega)]
  have e0:VRs g w (l'.flatMap encT) (X.toList.take (l'.flatMap encT).length):=by
    rw [e]
    exact VRs.flatMap fun x hx=>hv x (hp.mem_iff.1 hx)
  have o1:∀v∈X.toList.take (l'.flatMap encT).length,v.oneCell' =true:=by
    intro v hv
    rw [e] at hv
    obtain ⟨x,_,hx⟩:=List.mem_flatMap.1 hv
    exact h1 x _ hx
  obtain ⟨_,e9⟩:=r.setObj hid rfl hb (o' := .gone) (w' :=w1) hos hsz hoth (by rw [bo hbk,bo q2,hXs];simp) (fun h=>by cases h)
  obtain ⟨r1,e1⟩:=r.setObj hid rfl hb (o' := .row (l'.flatMap encT)) (w' :=w1) hos hsz hoth (by rw [bo hbk,bo q2,hXs];simp)
    (fun _=>⟨X.toList,ty,by simpa using hbk,by rw [hflT];simp [hXs];exact hle,e0.mono e9,o1⟩)
  exact ⟨e1.trans (Evo.of_gr r1 hg),r1.gr hg⟩
end
end
section
open Go.RowKit

def FreeM (m:Nat) (x:TV):Prop:=∀g g' w u,(∀id b,g.obj id=some b→g'.obj id=some b)→(∀b o,g.st b o→b<m→g'.st b o)→VR g w x u→VR g' w x u
theorem FreeT.toM {m:Nat} {x:TV} (h:FreeT x):FreeM m x:=fun g g' w u ho _ hv=>h g w g' w u ho hv
theorem FreeM.arg {m sz:Nat} {es:List (List TV)} (h:∀c∈es.flatten,FreeT c):FreeM m (.vec sz es (.arg m)):=fun g g' w u ho hs hv=>by
 cases hv with
 | nil hk=>exact .nil trivial
 | odd a hk=>exact .odd a hk
 | @vec _ _ _ b o c us hn hc hz ht hl h1 hst hw hvs=>
  refine .vec hn hc hz ht hl h1 (fun j hj=>hs _ _ (hst j hj) ?_) hw fun j x u hx hu=>h x (List.mem_of_getElem? hx) g w g' w u ho (hvs j x u hx hu)
  have ht' :es.length=0∨(b<m∧m≤w.heap.size):=ht
  rcases ht' with h0 | h0
  ·have:es= []:=List.eq_nil_of_length_eq_zero h0
   subst this
   simp at hj
  ·exact h0.1
theorem CV {m:Nat} {g g' :Gh} {w:World} {cs:List TV} {us:List Value} (hc:∀c∈cs,FreeM m c) (ho:∀id b,g.obj id=some b→g'.obj id=some b) (hs:∀b o,g.st b o→b<m→g'.st b o) (h:VRs g w cs us):VRs g' w cs us:=
 ⟨h.1,fun j x u hx hu=>hc x (List.mem_of_getElem? hx) g g' w u ho hs (h.2 j x u hx hu)⟩
theorem Hg {m:Nat} {g0 g:Gh} {w0 w:World} {T0 T:VT} (e0:Evo g0 w0 g w) (r0:RW g0 T0 w0) (r:RW g T w) {k e size:Nat} {es:List (List TV)} {u:Value} (hk:T0.tails.length≤k) (hT:T.tails[k]?=some (e,size,true)) (hn:es.length=e) (hpos:0<e)
    (hs:VR g w (.vec size es (.tail k e)) u) (hm:m≤w0.heap.size) (hes:∀c∈es.flatten,FreeM m c) (hob:∀o∈T.objs,A2 o) (hol:T0.objs.length≤T.objs.length):
    ∃g2,Evo g0 w0 g2 w∧RW g2 ⟨T.objs++ [.row es.flatten],T.tails.set k (e+1,size,false)⟩ w∧VR g2 w (.row size T.objs.length 0 es.length) u:=by
  obtain ⟨x,hxt,hxe,hxz,hxx⟩:=r.tl k _ hT
  simp only at hxe hxz
  obtain ⟨hxz,hxb⟩:=hxz
  have hes0:0<es.length:=by omega
  obtain ⟨b,o,c,us,rfl,a1,a2,a3,a4,a5,a6,a7,a8⟩:∃b o c us,u= .slice (some ⟨b,o,none⟩) es.length c∧es.length≤c∧c≤maxLen∧(∀e∈es,e.length=size)∧TokOk g w (.tail k e) size es.length b o c∧VRs g w es.flatten us∧(∀j,j<es.flatten.length→g.st b (o+j))∧(∀(j:Nat) v,us[j]?=some v→w.cell? ⟨b,o+j,none⟩=some v)∧∀u∈us,u.oneCell' =true:=by
    rcases hs.vec_inv with ⟨_,he,_⟩ | h | ⟨_,_,he,_⟩
    · rw [he] at hes0;simp at hes0
    · exact h
    · rw [he] at hes0;simp at hes0
  obtain ⟨y,q1,q2,q3,_,q5⟩:=a4
  rw [hxt] at q1;injection q1 with q1;subst q1
  obtain ⟨_,q6⟩:=q5 hxe hxb
  obtain ⟨hxo,p1,p2,p3⟩:=q6 (by omega) (by omega)
  subst p1 p2
  obtain ⟨⟨cur,hblk,hcur⟩,hff,hfl,hlo,hnfr⟩:=r.own k x hxt hxo (by omega)
  have hw0:w0.heap.size≤x.b:=Nat.le_trans (e0.tnew k x (r0.tout k hk) hxt) hlo
  obtain ⟨g2,hg2⟩:∃g2:Gh,g2={g with obj:=fun i=>if i=T.objs.length then some x.b else g.obj i,tail:=fun i=>if i=k then some {x with lim:=x.f,own:=false,born:=false,e:=e+1} else g.tail i,st:=fun b o=>g.st b o∧b≠x.b}:=⟨_,rfl⟩
  have gobj:∀id,id≠T.objs.length→g2.obj id=g.obj id:=fun id h=>by rw [hg2];simp [h]
  have gnew:g2.obj T.objs.length=some x.b:=by rw [hg2];simp
  have oeq:∀id b,g.obj id=some b→g2.obj id=some b:=fun id b h=>by
    rw [gobj id]; · exact h
    · rintro rfl;rw [r.out _ (Nat.le_refl _)] at h;cases h
  have gfr:g2.fr=g.fr:=by rw [hg2]
  have gst:∀b o,g2.st b o→g.st b o∧b≠x.b:=fun b o h=>by rw [hg2] at h;exact h
  have gtk:g2.tail k=some {x with lim:=x.f,own:=false,born:=false,e:=e+1}:=by rw [hg2];simp
  have gtn:∀j,j≠k→g2.tail j=g.tail j:=fun j hj=>by rw [hg2];simp [hj]
  have hst0:∀b o,g0.st b o→b≠x.b:=fun b o h hb=>by
    obtain ⟨u,hu⟩:=Option.isSome_iff_exists.1 (r0.st b o h)
    have:=eH hu
    simp at this;omega
  have ev:Evo g0 w0 g2 w:=by
    refine ⟨e0.os,e0.tape,e0.output,e0.size,fun id b hb=>oeq id b (e0.obj id b hb),fun b o h=>⟨?_,(e0.st b o h).2⟩,by rw [gfr];exact e0.fr,e0.frb,fun b o hb h=>e0.frs b o hb (gst b o h).1,fun j y hy=> ?_,fun j y h1 h2=> ?_,e0.csz⟩
    · rw [hg2];exact ⟨(e0.st b o h).1,hst0 b o h⟩
    · have hj:j≠k:=by rintro rfl;rw [r0.tout j hk] at hy;cases hy
      rw [gtn j hj];exact e0.tail j y hy
    · by_cases hj:j=k
      · subst hj;rw [gtk] at h2;injection h2 with h2;subst h2;exact e0.tnew j x h1 hxt
      · rw [gtn j hj] at h2;exact e0.tnew j y h1 h2
  have hobjne:∀(id:Nat) oo b,T.objs[id]?=some oo→oo.live=true→g.obj id=some b→b≠x.b:=fun id oo b h1 h2 h3 hb=>r.tobj id oo b k x h1 h2 h3 hxt (.inr ⟨hxo,by omega,hb.symm⟩)
  have hasle:∀b,({x with lim:=x.f,own:=false,born:=false,e:=e+1}:Tl).has b→False:=fun b h=>by
    rcases h with ⟨o,_,h1,h2⟩ | ⟨h,_⟩
    · simp only at h1 h2;omega
    · cases h
  have hob2:∀(id:Nat) oo,(T.objs++ [.row es.flatten])[id]?=some oo→(id<T.objs.length∧T.objs[id]?=some oo)∨(id=T.objs.length∧oo= .row es.flatten):=fun id oo h=>by
    rcases Nat.lt_trichotomy id T.objs.length with h1 | h1 | h1
    · rw [List.getElem?_append_left h1] at h;exact .inl ⟨h1,h⟩
    · subst h1;simp at h;exact .inr ⟨rfl,h.symm⟩
    · rw [List.getElem?_eq_none (by simp;omega)] at h;cases h
  have hfl3:=bD a3
  have hcl:cur.toList.length=c*size:=by rw [Array.length_toList,hcur,p3]
  have hul:us.length=es.length*size:=by rw [a5.1,hfl3]
  have hle2:es.length*size≤c*size:=Nat.mul_le_mul_right _ a1
  have htake:cur.toList.take es.flatten.length=us:=by
    rw [hfl3]
    apply List.ext_getElem?
    intro j
    rw [List.getElem?_take]
    split
    · rename_i hj
      have h9:us[j]?=some us[j]:=List.getElem?_eq_getElem (by omega)
      have h10:=a7 j us[j] h9
      rw [h9]
      simpa [World.cell?,hblk] using h10
    · rename_i hj;rw [List.getElem?_eq_none (by omega)]
  have rw2:RW g2 ⟨T.objs++ [.row es.flatten],T.tails.set k (e+1,size,false)⟩ w:=by
    refine ⟨?_, ?_, ?_, ?_, ?_, ?_, ?_, ?_, ?_, ?_, ?_, ?_⟩
    · intro id oo h hl
      rcases hob2 id oo h with ⟨h0,h1⟩ | ⟨rfl,rfl⟩
      · obtain ⟨b,h3,h4,h5,h6⟩:=r.obj id oo h1 hl
        exact ⟨b,by rw [gobj id (by omega)];exact h3,Hc oeq (hob oo (List.mem_of_getElem? h1)) h4,by rw [gfr];exact h5,fun o hs=>h6 o (gst b o hs).1⟩
      · refine ⟨x.b,gnew,⟨cur.toList,x.ty,by simpa using hblk,by rw [hfl3,hcl];exact hle2, ?_,fun u hu=> ?_⟩,by rw [gfr];exact hnfr,fun o hs=>(gst _ o hs).2 rfl⟩
        · rw [htake];exact CV hes oeq (fun b o hs hb=>by rw [hg2];exact ⟨hs,by omega⟩) a5
        · rw [htake] at hu;exact a8 u hu
    · intro i j oi oj b hi li hj lj b1 b2
      rcases hob2 i oi hi with ⟨h0,h1⟩ | ⟨rfl,rfl⟩
      · rw [gobj i (by omega)] at b1
        rcases hob2 j oj hj with ⟨h2,h3⟩ | ⟨rfl,rfl⟩
        · rw [gobj j (by omega)] at b2
          exact r.inj i j oi oj b h1 li h3 lj b1 b2
        · rw [gnew] at b2;injection b2 with b2;exact absurd b2.symm (hobjne i oi b h1 li b1)
      · rw [gnew] at b1;injection b1 with b1
        rcases hob2 j oj hj with ⟨h2,h3⟩ | ⟨rfl,rfl⟩
        · rw [gobj j (by omega)] at b2
          exact absurd b1.symm (hobjne j oj b h3 lj b2)
        · rfl
    · intro id hid
      simp only [List.length_append,List.length_cons,List.length_nil] at hid
      rw [gobj id (by omega)];exact r.out id (by omega)
    · intro b o h;exact r.st b o (gst b o h).1
    · intro b hb;rw [gfr] at hb;exact r.fr b hb
    · intro j p h
      simp only [List.getElem?_set] at h
      split at h
      · rename_i hj;subst hj
        split at h
        · injection h with h;subst h
          exact ⟨_,gtk,rfl,⟨hxz,rfl⟩,fun b o hin=>absurd (.inl ⟨o,hin⟩) (hasle b)⟩
        · cases h
      · rename_i hj
        obtain ⟨y,q1,q2,q3,q4⟩:=r.tl j p h
        have hj' :j≠k:=fun h=>hj h.symm
        refine ⟨y,by rw [gtn j hj'];exact q1,q2,q3,fun b o hin=> ?_⟩
        obtain ⟨s1,s2,s3,s4⟩:=q4 b o hin
        exact ⟨s1,s2,fun hs=>s3 (gst b o hs).1,by rw [gfr];exact s4⟩
    · intro j hj
      simp only [List.length_set] at hj
      have hlt:=lZ r hxt
      rw [gtn j (by omega)];exact r.tout j hj
    · intro i j y z b h1 h2 i1 i2
      by_cases hi:i=k
      · subst hi;rw [gtk] at h1;injection h1 with h1;subst h1;exact (hasle b i1).elim
      · by_cases hj:j=k
        · subst hj;rw [gtk] at h2;injection h2 with h2;subst h2;exact (hasle b i2).elim
        · rw [gtn i hi] at h1;rw [gtn j hj] at h2;exact r.tinj i j y z b h1 h2 i1 i2
    · intro i oi b j y hi li b1 hy hin
      by_cases hj:j=k
      · subst hj;rw [gtk] at hy;injection hy with hy;subst hy;exact (hasle b hin).elim
      · rw [gtn j hj] at hy
        rcases hob2 i oi hi with ⟨h0,h1⟩ | ⟨rfl,rfl⟩
        · rw [gobj i (by omega)] at b1;exact r.tobj i oi b j y h1 li b1 hy hin
        · rw [gnew] at b1;injection b1 with b1;subst b1
          exact hj (r.tinj j k y x x.b hy hxt hin (.inr ⟨hxo,by omega,rfl⟩))
    · intro j y hy d1 d2
      by_cases hj:j=k
      · subst hj;rw [gtk] at hy;injection hy with hy;subst hy;cases d1
      · rw [gtn j hj] at hy
        obtain ⟨s1,s3,s4,s5,s6⟩:=r.own j y hy d1 d2
        exact ⟨s1,s3,s4,s5,by rw [gfr];exact s6⟩
    · intro j y hy d1
      by_cases hj:j=k
      · subst hj;rw [gtk] at hy;injection hy with hy;subst hy;rcases d1 with d1 | d1<;>cases d1
      · rw [gtn j hj] at hy;exact r.own0 j y hy d1
    · intro j y hy
      by_cases hj:j=k
      · subst hj;rw [gtk] at hy;injection hy with hy;subst hy;exact r.tlo j x hxt
      · rw [gtn j hj] at hy;exact r.tlo j y hy
  refine ⟨g2,ev,rw2, ?_⟩
  have:=VR.row (g:=g2) (w:=w) (size:=size) (id:=T.objs.length) (off:=0) (n:=es.length) (c:=c) gnew (by have:=r.own k x hxt hxo (by omega);exact (Array.getElem?_eq_some_iff.1 hblk).1) a1 a2 (by rw [bo hblk,hcur,p3];simp)
  simpa using this
section
variable {P:Program} {G:aK}
theorem yv {m:Nat} {c:Code} {n:Nat} {keys:List Nat} {ad:List (Nat × Nat)} {vs0 vs1:List TV} {T0 T1:VT} {slot k size:Nat} {es:List (List TV)} (hs:(aj n keys vs1)[slot]?=some (.vec size es (.tail k es.length))) (hT:T1.tails[k]?=some (es.length,size,true)) (hpos:0<es.length)
  (hm:∀(g:Gh) (w:World) (σ:List TV) (us:List Value) (T:VT),VRs g w σ us→pick keys (cM ad σ T).1=vs0→m≤w.heap.size) (hes:∀c∈es.flatten,FreeM m c) (hob:∀o∈T1.objs,A2 o) (h:∀K,K .normal (aj n keys vs1) T1 []→VWx P G none 0 c (aj n keys vs0) T0 [] K):
  ∀rd ro σ T D K,yT n keys ad vs0 T0 T1 slot k size es rd ro σ T D K→VWx P G rd ro c σ T D K:=by
 rintro rd ro σ T D K ⟨⟨h1,h2,h3,h4,h5,h6,h7,hk⟩,hK⟩
 have hl:=aS (n:=n) (keys:=keys) (ad:=ad) (vs0:=vs0) (T0:=T0) (R:=fun K=>K .normal (aj n keys vs1) T1 []) h rd ro σ T D (fun e σ' T' D' =>e= .normal∧σ' =aj n keys vs1∧T' =T1∧D' = []) ⟨⟨h1,h2,h3,h4,h5,h6,h7⟩,rfl,rfl,rfl,rfl⟩
 subst h1 h2 h3
 have hn:=Nat.eq_of_beq_eq_true h6
 intro r g w a rw0 hG hσ hd hD hr
 refine wpIn_mono (hl r g w a rw0 hG hσ hd hD hr) ?_
 rintro e a' w' ⟨g',σ',T',D',⟨rfl,rfl,rfl,rfl⟩,e',r',hσ',hd',_,fx⟩
 obtain ⟨u,hu,hv⟩:=hσ'.at hs
 obtain ⟨g2,ev,rw2,v2⟩:=Hg e' rw0 r' (Nat.le_of_ble_eq_true hk) hT rfl hpos hv (hm _ _ _ _ _ hσ h7) hes hob fx.len
 refine ⟨g2,_,_, [],hK,ev,rw2,A3 ?_ hu v2,hd',(fun id hid=>by cases hid),⟨?_,fun i hi=>absurd hi (Nat.not_lt_zero i),fun i o b hi=>absurd hi (Nat.not_lt_zero i)⟩⟩
 ·rw [hσ'.1];simp [aj,iW,gn]
 ·have:=fx.len
  simp only [List.length_append,List.length_cons,List.length_nil];omega
end
end
section
open Go.RowKit

mutual
def qO (m:Nat):TV→TV
 | .vec 0 es tok=> .vec 0 es tok
 | .vec (sz+1) es _=> .vec (sz+1) (iX m es) (.arg m)
 | .agg cs=> .agg (m6 m cs)
 | x=>x
def m6 (m:Nat):List TV→List TV
 | []=> []
 | x::l=>qO m x::m6 m l
def iX (m:Nat):List (List TV)→List (List TV)
 | []=> []
 | x::l=>m6 m x::iX m l
end
theorem kj (m:Nat):∀l:List TV,m6 m l=l.map (qO m)
 | []=>rfl
 | x::l=>by rw [m6,kj m l];rfl
theorem gQ (m:Nat):∀l:List (List TV),iX m l=l.map fun c=>c.map (qO m)
 | []=>rfl
 | x::l=>by rw [iX,gQ m l,kj];rfl
theorem nJ (m:Nat) (l:List (List TV)):(iX m l).flatten=l.flatten.map (qO m):=by
 rw [gQ,List.map_flatten]
theorem VR.toArg {g:Gh} {w:World} {x:TV} {u:Value} (h:VR g w x u):VR g w (qO w.heap.size x) u:=by
 induction h with
 | @vec size es tok b o c us hn hc hz ht hl h1 hs hw hv ih=>
  cases size with
  | zero=>exact .vec hn hc hz ht hl h1 hs hw hv
  | succ k=>
   have hle:(iX w.heap.size es).length=es.length:=by rw [gQ,List.length_map]
   have hfl:(iX w.heap.size es).flatten.length=es.flatten.length:=by rw [nJ,List.length_map]
   show VR g w (.vec (k+1) (iX w.heap.size es) (.arg w.heap.size)) _
   rw [←hle]
   refine .vec (by omega) hc (fun e he=> ?_) ?_ (by omega) h1 (fun j hj=>hs j (by omega)) hw (fun j x u hx hu=> ?_)
   ·rw [gQ] at he
    obtain ⟨e0,he0,rfl⟩:=List.mem_map.1 he
    rw [List.length_map];exact hz e0 he0
   ·show (iX w.heap.size es).length=0∨(b<w.heap.size∧w.heap.size≤w.heap.size)
    rcases Nat.eq_zero_or_pos es.length with h0 | h0
    ·exact .inl (by omega)
    ·refine .inr ⟨?_,Nat.le_refl _⟩
     have h2:=bD hz
     have h3:0<us.length:=by rw [hl,h2];exact Nat.mul_pos h0 (Nat.succ_pos _)
     have h4:=hw 0 us[0] (List.getElem?_eq_getElem h3)
     exact eH h4
   ·rw [nJ,List.getElem?_map] at hx
    cases he:es.flatten[j]? with
    | none=>rw [he] at hx;cases hx
    | some y=>
     rw [he] at hx
     injection hx with hx
     subst hx
     exact ih j y u he hu
 | @nil size tok hk=>
  cases size with
  | zero=>exact .nil hk
  | succ k=>exact .nil trivial
 | @odd size tok a hk=>
  cases size with
  | zero=>exact .odd a hk
  | succ k=>exact .odd a (.inl rfl)
 | agg hl hv ih=>
  show VR g w (.agg (m6 w.heap.size _)) _
  rw [kj]
  refine .agg (by rw [List.length_map];exact hl) fun j x u hx hu=> ?_
  rw [List.getElem?_map] at hx
  rename_i cs us
  cases he:cs[j]? with
  | none=>rw [he] at hx;cases hx
  | some y=>
   rw [he] at hx
   injection hx with hx
   subst hx
   exact ih j y u he hu
 | val v=>exact .val v
 | dead v=>exact .dead v
 | ptr hb=>exact .ptr hb
 | sl hb=>exact .sl hb
 | row h hb hn hm hc=>exact .row h hb hn hm hc
 | map h=>exact .map h
 | yld h=>exact .yld h
 | elt hl h1 hs hw hv ih=>exact .elt hl h1 hs hw hv
 | tup hl hv ih=>exact .tup hl hv
 | fn hl hv hl2 hv2=>exact .fn hl hv hl2 hv2
 | ifc h=>exact .ifc h
section
variable {P:Program} {G:aK}
theorem VCx.toArg {ro:Nat} {f:FuncId} {xs:List TV} {T:VT} {Q:TV→VT→Prop} (h:∀m,VCx P G ro f (m6 m xs) T Q):VCx P G ro f xs T Q:=by
 intro g w us r hG hx
 refine h w.heap.size g w us r hG ⟨by rw [kj,List.length_map];exact hx.1,fun j x u hj hu=> ?_⟩
 rw [kj,List.getElem?_map] at hj
 cases he:xs[j]? with
 | none=>rw [he] at hj;cases hj
 | some y=>
  rw [he] at hj
  injection hj with hj
  subst hj
  exact (hx.2 j y u he hu).toArg
end
end
section
open Go.RowKit

structure RowI (P:Program) (t e:TypeId) (n:Nat):Prop where
 sl:P.underlying t=some (.slice e)
 ex:∃(inf:TypeInfo) (z:Value),P.info? e=some inf∧inf.size=n∧inf.bytes+1≤1000∧inf.zero=some z∧z.cells.size=n
 pos:0<n
section
variable {P:Program} {G:aK} {t e:TypeId} {n:Nat}
theorem RowI.ix (h:RowI P t e n) {es:List (List TV)} {tok:Tok} {x i j:Nat} {cs:List TV} (hne:Nat.beq x i=false) (hp:es[j]?=some cs):ax P G (.indexAddr t (.tmp x) (.tmp i)) [(x, .vec n es tok),(i, .val (.int .i64 (j:Int)))] (.elt cs):=by
 obtain ⟨inf,z,i1,i2,i3,i4,i5⟩:=h.ex
 exact gp (inf:=inf) (es:=es) (tok:=tok) (k:= .i64) (z:=(j:Int)) h.sl i1 (by rw [i2];simp [bb,bX]) (by simp [bb,bX,hne]) (by omega) (by simpa using hp)
theorem RowI.hi (h:RowI P t e n) {es:List (List TV)} {tok:Tok} {x i j:Nat} (hne:Nat.beq x i=false) (hp:j≤es.length):ax P G (.slice t (.tmp x) none (some (.tmp i)) none) [(x, .vec n es tok),(i, .val (.int .i64 (j:Int)))] (.vec n (es.take j) .none):=by
 obtain ⟨inf,z,i1,i2,i3,i4,i5⟩:=h.ex
 have:=wN (P:=P) (G:=G) (t:=t) (x:= .tmp x) (i:= .tmp i) (l:= [(x, .vec n es tok),(i, .val (.int .i64 (j:Int)))]) (inf:=inf) (es:=es) (tok:=tok) (k:= .i64) (z:=(j:Int)) h.sl i1 (by rw [i2];simp [bb,bX]) (by simp [bb,bX,hne]) (by omega) (by simpa using hp)
 rw [i2] at this
 simpa using this
theorem RowI.lo (h:RowI P t e n) {es:List (List TV)} {tok:Tok} {x i j:Nat} (hne:Nat.beq x i=false) (hp:j≤es.length):ax P G (.slice t (.tmp x) (some (.tmp i)) none none) [(x, .vec n es tok),(i, .val (.int .i64 (j:Int)))] (.vec n (es.drop j) tok):=by
 obtain ⟨inf,z,i1,i2,i3,i4,i5⟩:=h.ex
 have:=wO (P:=P) (G:=G) (t:=t) (x:= .tmp x) (i:= .tmp i) (l:= [(x, .vec n es tok),(i, .val (.int .i64 (j:Int)))]) (inf:=inf) (es:=es) (tok:=tok) (k:= .i64) (z:=(j:Int)) h.sl i1 (by rw [i2];simp [bb,bX]) (by simp [bb,bX,hne]) (by omega) (by simpa using hp)
 rw [i2] at this
 simpa using this
theorem RowI.ix0 (h:RowI P t e n) {es:List (List TV)} {tok:Tok} {x:Nat} {cs:List TV} (hp:es[0]?=some cs):ax P G (.indexAddr t (.tmp x) (.const (.int .i64 0))) [(x, .vec n es tok)] (.elt cs):=by
 obtain ⟨inf,z,i1,i2,i3,i4,i5⟩:=h.ex
 exact gp (inf:=inf) (es:=es) (tok:=tok) (k:= .i64) (z:=0) h.sl i1 (by rw [i2];simp [bb,bX]) (by simp [bb];rfl) (by omega) (by simpa using hp)
theorem RowI.hm (h:RowI P t e n) {es:List (List TV)} {tok:Tok} {x i k j:Nat} (hne:Nat.beq x i=false) (hn2:Nat.beq x k=false) (hn3:Nat.beq i k=false) (hp:j≤es.length):ax P G (.slice t (.tmp x) none (some (.tmp i)) (some (.tmp k))) [(x, .vec n es tok),(i, .val (.int .i64 (j:Int))),(k, .val (.int .i64 (j:Int)))] (.vec n (es.take j) .none):=by
 obtain ⟨inf,z,i1,i2,i3,i4,i5⟩:=h.ex
 refine ⟨?_⟩
 have hb:Nat.ble j es.length=true:=Nat.ble_eq_true_of_le hp
 have hb2:Nat.ble j j=true:=Nat.ble_eq_true_of_le (Nat.le_refl _)
 have hb3:Nat.ble 0 j=true:=Nat.ble_eq_true_of_le (Nat.zero_le _)
 simp [hb2,hb3,bq,jL,bb,bX,hne,hn2,hn3,h.sl,i1,i2,fk,ey,hb]
theorem RowI.app (h:RowI P t e n) {T:VT} {k:Nat} {bn:Bool} {es es2:List (List TV)} {tok:Tok} {s x:Nat} (hk:T.tails[k]?=some (es.length,n,bn)) (hne:Nat.beq s x=false) (hl:es.length+es2.length≤100000000):
    aB P G 0 T (.call ⟨.builtin .append, #[.tmp s, .tmp x], #[t,t]⟩) [(s, .vec n es (.tail k es.length)),(x, .vec n es2 tok)] (.vec n (es++es2) (.tail k (es.length+es2.length))) {T with tails:=T.tails.set k (es.length+es2.length,n,bn)}:=by
  obtain ⟨inf,z,i1,i2,i3,i4,i5⟩:=h.ex
  have h1:=fG (inf:=inf) (P:=P) (G:=G) (ro:=0) (T:=T) (T1:=T) (t:=t) (tx:=t) (s:= .tmp s) (x:= .tmp x) (l:= [(s, .vec n es (.tail k es.length)),(x, .vec n es2 tok)]) (es:=es) (es2:=es2) (k:=k) (n:=es.length) (bn:=bn) h.sl i1 i4 (by rw [i5,i2]) (by rw [i2];exact h.pos) (by rw [h.sl];rfl)
    (by rw [i2];simp [bb,bX,dW,hk]) (by rw [i2];simp [bb,bX,hne,fp])
    (by have h2:=Nat.mul_le_mul hl i3
        omega)
  rw [i2] at h1
  exact h1
end
end
section
open Go.ChangeShapes Go.WideShapes Go.ChangeAt Go.RowKit Go.Joins Go.Deep

section
variable {H:Type} {enc:TypeId × Value→H} {P:Program} {w:World} {base:Nat} {spare:Nat→Bool} {held:Bool}
end
end
section
open Go.ChangeShapes Go.WideShapes Go.ChangeAt Go.RowKit Go.Joins Go.Deep

theorem qP {α:Type} {k:Nat}:∀(l:List (List α)),(∀x∈l,x.length=k)→∀(j:Nat) u,l.flatten[j]?=some u→∃i c x,c<k∧j=i*k+c∧l[i]?=some x∧x[c]?=some u
 | [],_,j,u,h=>by simp at h
 | a::r,hz,j,u,h=>by
  have ha:=hz a (by simp)
  rw [List.flatten_cons] at h
  rcases Nat.lt_or_ge j a.length with hj | hj
  ·rw [List.getElem?_append_left hj] at h
   exact ⟨0,j,a,by omega,by omega,rfl,h⟩
  ·rw [List.getElem?_append_right hj] at h
   obtain ⟨i,c,x,h1,h2,h3,h4⟩:=qP r (fun x hx=>hz x (by simp [hx])) _ u h
   refine ⟨i+1,c,x,h1, ?_,by simpa using h3,h4⟩
   rw [Nat.add_mul];omega
section
variable {P:Program} {H:Type} {enc:TypeId × Value→H} {w:World} {base:Nat} {spare:Nat→Bool} {held:Bool}
end
end
section
open Go.ChangeShapes Go.WideShapes Go.ChangeAt Go.RowKit Go.Joins Go.Deep

inductive SH where
 | int (k:IntKind)
 | bool
 | str
 | slice (es:List SH)
mutual
def SH.Fits:SH→TV→Prop
 | .int k,x=>∃z,x= .val (.int k z)∧(Lit.int k z).wf=true
 | .bool,x=>∃b,x= .val (.bool b)
 | .str,x=>∃s:ByteArray,x= .val (.string s)∧s.size≤maxLen
 | .slice es,x=>∃l:List (List TV),x= .vec es.length l .none∧l.length≤maxLen∧∀e∈l,dR es e
def dR:List SH→List TV→Prop
 | [], []=>True
 | s::ss,x::xs=>s.Fits x∧dR ss xs
 | _,_=>False
end
theorem uK:∀{ss:List SH} {xs:List TV},dR ss xs→xs.length=ss.length
 | [], [],_=>rfl
 | [],_::_,h=>by simp [dR] at h
 | _::_, [],h=>by simp [dR] at h
 | s::ss,x::xs,h=>by
  simp only [dR] at h
  simp [uK h.2]
theorem c7 {s:SH} {ss:List SH} {xs:List TV} (h:dR (s::ss) xs):∃x r,xs=x::r∧s.Fits x∧dR ss r:=by
 cases xs with
 | nil=>simp [dR] at h
 | cons x r=>simp only [dR] at h;exact ⟨x,r,rfl,h⟩
theorem uL {xs:List TV} (h:dR [] xs):xs= []:=by
 cases xs with
 | nil=>rfl
 | cons x r=>simp [dR] at h
theorem fH {k:IntKind} {x:TV} (h:SH.Fits (.int k) x):∃z,x= .val (.int k z)∧(Lit.int k z).wf=true:=by simpa [SH.Fits] using h
theorem uM {x:TV} (h:SH.Fits .bool x):∃b,x= .val (.bool b):=by simpa [SH.Fits] using h
theorem sj {es:List SH} {x:TV} (h:SH.Fits (.slice es) x):∃l:List (List TV),x= .vec es.length l .none∧l.length≤maxLen∧∀e∈l,dR es e:=by simpa [SH.Fits] using h
def sk (f:TypeId→Option SH):List TypeId→Option (List SH)
 | []=>some []
 | t::r=>match f t,sk f r with
  | some s,some l=>some (s::l)
  | _,_=>none
theorem yV {f:TypeId→Option SH}:∀{ts:List TypeId} {ss:List SH},sk f ts=some ss→ss.length=ts.length
 | [],ss,h=>by simp [sk] at h;subst h;rfl
 | t::r,ss,h=>by
  simp only [sk] at h
  split at h
  ·rename_i s l h1 h2
   injection h with h;subst h
   simp [yV h2]
  ·cases h
def wR (P:Program):Nat→TypeId→Option SH
 | 0,_=>none
 | n+1,t=>match P.underlying t with
  | some (.int k)=>some (.int k)
  | some .bool=>some .bool
  | some .string=>some .str
  | some (.slice e)=>match mm P n e with
   | some ts=>bif Nat.beq (P.cellsOf e) ts.length&&Nat.ble 1 ts.length then (sk (wR P n) ts).map .slice else none
   | none=>none
  | _=>none
section
variable {P:Program} {H:Type} {enc:TypeId × Value→H} {w:World} {base:Nat} {held:Bool}
abbrev wS (enc:TypeId × Value→H) (P:Program) (w:World) (base:Nat) (held:Bool) (t:TypeId) (sh:SH):Prop:=∀u m y,DataW.trod enc P w base (fun _=>true) held m t [u]=some y→u.oneCell' =true∧∃x,VR (lM w) w x u∧sh.Fits x
theorem wT {f:TypeId→Option SH} (hf:∀t sh,f t=some sh→wS enc P w base held t sh):∀(ts:List TypeId) (ss:List SH) (cs:List Value),sk f ts=some ss→cs.length=ts.length→
  (∀(j:Nat) t',ts[j]?=some t' →∃u m y,cs[j]?=some u∧DataW.trod enc P w base (fun _=>true) held m t' [u]=some y)→(∀u∈cs,u.oneCell' =true)∧∃xs,VRs (lM w) w xs cs∧dR ss xs
 | [],ss,cs,h,hl,_=>by
  simp [sk] at h;subst h
  have:=List.eq_nil_of_length_eq_zero hl
  subst this
  exact ⟨by simp, [],VRs.nil _ _,trivial⟩
 | t::r,ss, [],h,hl,_=>by simp at hl
 | t::r,ss,c::cs,h,hl,hj=>by
  simp only [sk] at h
  split at h
  ·rename_i s l h1 h2
   injection h with h;subst h
   obtain ⟨u,m,y,k1,k2⟩:=hj 0 t rfl
   simp at k1;subst k1
   obtain ⟨a1,x,a2,a3⟩:=hf t s h1 _ m y k2
   obtain ⟨b1,xs,b2,b3⟩:=wT hf r l cs h2 (by simpa using hl) fun j t' ht' =>by
    obtain ⟨u,m,y,k1,k2⟩:=hj (j+1) t' (by simpa using ht')
    exact ⟨u,m,y,by simpa using k1,k2⟩
   refine ⟨fun u hu=> ?_,x::xs,VRs.cons a2 b2,a3,b3⟩
   rcases List.mem_cons.1 hu with rfl | hu
   ·exact a1
   ·exact b1 u hu
  ·cases h
theorem sn {e:TypeId} {n:Nat} {ts:List TypeId} {f:TypeId→Option SH} {ss:List SH} (hf:∀t sh,f t=some sh→wS enc P w base held t sh) (hts:mm P n e=some ts) (hss:sk f ts=some ss):
    ∀(rows:List (List Value)),(∀x∈rows,x.length=ts.length∧∃m y,DataW.trod enc P w base (fun _=>true) held m e x=some y)→
      (∀u∈rows.flatten,u.oneCell' =true)∧∃l:List (List TV),l.length=rows.length∧VRs (lM w) w l.flatten rows.flatten∧∀x∈l,dR ss x
  | [],_=>⟨by simp, [],rfl,VRs.nil _ _,by simp⟩
  | r::rows,h=>by
    obtain ⟨h1,m,y,h2⟩:=h r List.mem_cons_self
    obtain ⟨a1,xs,a2,a3⟩:=wT hf ts ss r hss h1 (uJ n m e ts r y hts h1 h2)
    obtain ⟨b1,l,b2,b3,b4⟩:=sn hf hts hss rows fun x hx=>h x (List.mem_cons_of_mem _ hx)
    refine ⟨fun u hu=> ?_,xs::l,by simp [b2],by rw [List.flatten_cons,List.flatten_cons];exact a2.app b3,fun x hx=> ?_⟩
    · rw [List.flatten_cons] at hu
      rcases List.mem_append.1 hu with hu | hu
      · exact a1 u hu
      · exact b1 u hu
    · rcases List.mem_cons.1 hx with rfl | hx
      · exact a3
      · exact b4 x hx
theorem uN:∀(n:Nat) (t:TypeId) (sh:SH),wR P n t=some sh→wS enc P w base held t sh
  | 0,_,_,h=>by simp [wR] at h
  | n+1,t,sh,h=>by
    intro u m y hy
    simp only [wR] at h
    split at h
    · rename_i k hk
      injection h with h;subst h
      obtain ⟨z,rfl,wz⟩:=ES hk hy
      exact ⟨rfl,_, .val _,z,rfl,wz⟩
    · rename_i hk
      injection h with h;subst h
      obtain ⟨b,e,_⟩:=DataW.trod_bool hk hy
      injection e with e;subst e
      exact ⟨rfl,_, .val _,b,rfl⟩
    · rename_i hk
      injection h with h;subst h
      obtain ⟨s,e,_,hs⟩:=DataW.trod_string hk hy
      injection e with e;subst e
      exact ⟨rfl,_, .val _,s,rfl,hs⟩
    · rename_i e ht
      split at h
      · rename_i ts hts
        cases hb:(Nat.beq (P.cellsOf e) ts.length&&Nat.ble 1 ts.length) with
        | false=>rw [hb] at h;cases h
        | true=>
          rw [hb] at h
          simp only [Bool.and_eq_true] at hb
          have hk:=Nat.eq_of_beq_eq_true hb.1
          have hpos:=Nat.le_of_ble_eq_true hb.2
          simp only [cond_true,Option.map_eq_some_iff] at h
          obtain ⟨ss,hss,rfl⟩:=h
          have hsl:=yV hss
          rcases open_slice ht hy with ⟨hcs,_⟩ | ⟨a,len,cap,m',n',D,Pl,hcs,hbb,hl,hm,hmm,hx,hall⟩
          · injection hcs with hcs;subst hcs
            exact ⟨rfl, .vec ss.length [] .none, .nil trivial, [],rfl,Nat.zero_le _,by simp⟩
          · injection hcs with hcs;subst hcs
            simp only [if_true] at hmm
            subst hmm
            rw [hk] at hall
            obtain ⟨b,o,sp⟩:=a
            rcases Nat.eq_zero_or_pos m' with hc0 | hc0
            · subst hc0
              have:len=0:=by omega
              subst this
              exact ⟨rfl, .vec ss.length [] .none, .odd _ trivial, [],rfl,Nat.zero_le _,by simp⟩
            · have hsp:sp=none:=by
                obtain ⟨cs',h1,_⟩:=hall 0 hc0
                obtain ⟨_,h3,h4⟩:=World.cells?_some h1
                have h5:=h4 0 hpos
                rw [List.getElem?_eq_getElem (by omega)] at h5
                cases sp with
                | none=>rfl
                | some s=>simp [World.cell?,Addr.add] at h5;split at h5<;>cases h5
              subst hsp
              obtain ⟨V,hV⟩:=choose_lt (α:=List Value) (p:=fun i cs' =>w.cells? base ((⟨b,o,none⟩:Addr).add (i*ts.length)) ts.length=some cs' ∧DataW.trod enc P w base (fun _=>true) held n' e cs' =some (D i,Pl i)) (fun i hi=>hall i hi)
              have each:∀i,i<len→(V i).length=ts.length∧(∀c,c<ts.length→w.cell? ⟨b,o+(i*ts.length+c),none⟩=(V i)[c]?)∧∃y,DataW.trod enc P w base (fun _=>true) held n' e (V i)=some y:=fun i hi=>by
                obtain ⟨h1,h2⟩:=hV i (by omega)
                obtain ⟨_,h3,h4⟩:=World.cells?_some h1
                refine ⟨h3,fun c hc=> ?_,_,h2⟩
                rw [←h4 c hc]
                congr 1
                simp [Addr.add_none,Nat.add_assoc]
              have at1:∀(i:Nat) x,((List.range len).map V)[i]?=some x→i<len∧x=V i:=fun i x hx=>by
                rw [List.getElem?_map] at hx
                rcases Nat.lt_or_ge i len with hi | hi
                · rw [List.getElem?_range hi] at hx
                  injection hx with hx
                  exact ⟨hi,hx.symm⟩
                · rw [List.getElem?_eq_none (by simpa using hi)] at hx;cases hx
              have hz:∀x∈(List.range len).map V,x.length=ts.length:=fun x hx=>by
                obtain ⟨i,hi,rfl⟩:=List.mem_map.1 hx
                exact (each i (List.mem_range.1 hi)).1
              obtain ⟨k1,l,k2,k3,k4⟩:=sn (fun t sh h=>uN n t sh h) hts hss ((List.range len).map V) fun x hx=>by
                obtain ⟨i,hi,rfl⟩:=List.mem_map.1 hx
                obtain ⟨e1,_,y,e3⟩:=each i (List.mem_range.1 hi)
                exact ⟨e1,n',y,e3⟩
              have hlen:l.length=len:=by rw [k2];simp
              refine ⟨rfl, .vec ss.length l .none, ?_,l,rfl,by omega,k4⟩
              refine .mk_vec hlen.symm hl hm (fun x hx=>uK (k4 x hx)) trivial k3 (fun j hj=> ?_) (fun j u hu=> ?_) k1
              · rw [←k3.1] at hj
                obtain ⟨i,c,x,h1,h2,h3,h4⟩:=qP _ hz j _ (List.getElem?_eq_getElem hj)
                obtain ⟨hi,rfl⟩:=at1 i x h3
                show (w.cell? ⟨b,o+j,none⟩).isSome=true
                rw [h2,(each i hi).2.1 c h1,h4];rfl
              · obtain ⟨i,c,x,h1,h2,h3,h4⟩:=qP _ hz j u hu
                obtain ⟨hi,rfl⟩:=at1 i x h3
                rw [h2,(each i hi).2.1 c h1,h4]
      · cases h
    · cases h
theorem A6 {m:Nat} {t:TypeId} {sh:SH} {r:Reach} {b0:Nat} {v:Value} {d:DataW H} {p:List MemPlace} (hs:wR P m t=some sh)
  (hv:Value.okWide P w r b0 t v) (h:DataW.Trod enc P w base (fun _=>true) held t v d p):∃x,VR (lM w) w x v∧sh.Fits x:=by
 have hc:v.cells.toList= [v]:=by
  cases m with
  | zero=>simp [wR] at hs
  | succ m=>
   simp only [wR] at hs
   unfold Value.okWide at hv
   split at hs
   ·rename_i k hk
    rw [hk] at hv
    simp only [Cell.okWide,hk] at hv
    cases v<;>simp [Cell.ok,hk] at hv<;>rfl
   ·rename_i hk
    rw [hk] at hv
    simp only [Cell.okWide,hk] at hv
    cases v<;>simp [Cell.ok,hk] at hv<;>rfl
   ·rename_i hk
    rw [hk] at hv
    simp only [Cell.okWide,hk] at hv
    cases v<;>simp [Cell.ok,hk] at hv<;>rfl
   ·rename_i e hk
    obtain ⟨qq,n,c,rfl⟩:=okWide_slice hk (by unfold Value.okWide;exact hv)
    rfl
   ·cases hs
 obtain ⟨fuel,hf⟩:=h
 rw [hc] at hf
 exact (uN m t sh hs v fuel _ hf).2
end
end
section
open Go.RowKit

section
variable {P:Program} {G:aK}
end
end
section
open Go.RowKit

section
variable {P:Program} {G:aK}
end
end
section
open Go.RowKit

def ae:aK:=fun _=>none
def aR:FuncId→Option aM:=fun _=>none
def aD:Nat→Option (br × Code):=fun _=>none
abbrev eo:=List (Nat × Nat × Bool)
theorem ac:Tryz.prog.follows .mixedOrders=true:=by kernel_rfl
theorem aa:iE Tryz.prog=true:=by kernel_rfl
theorem ap:jy ae:=fun _ _ h=>by cases h
theorem sq {j len:Nat} (h:j<len) (hlen:len≤9223372036854775807):IntKind.wrap IntKind.i64 (((j:Nat):Int)+(1:Int))=((j+1:Nat):Int):=by
 simp only [IntKind.wrap,IntKind.bits,IntKind.signed];simp;omega
end
end Go.Proofs.YtnfplefcghadfaaGreat
namespace Go.Proofs
open Go.Shelf
def Tryz.sortCh_ren:Go.Shelf.Ren:=⟨fun | 6=>27 | 15=>45 | 14=>44 | 28=>68 | 29=>69 | 20=>60 | 21=>61 | 22=>62 | 23=>63 | 24=>64 | 25=>65 | 26=>66 | 27=>67 | 46=>82 | 47=>83 | 48=>84 | 49=>85 | 50=>86 | 57=>99 | n=>n,fun | 22=>22 | 24=>51 | 25=>68 | 3=>3 | 39=>84 | 0=>0 | 53=>34 | 55=>107 | 4=>4 | 46=>100 | 45=>99 | 50=>65 | 5=>5 | 9=>9 | 66=>116 | 70=>120 | 76=>137 | 77=>138 | n=>n,fun | n=>n⟩
theorem Tryz.sortCh:Go.Proofs.SlLaysF0.n6 Tryz.prog Tryz.sortCh_ren:={
 mixed:=by kernel_rfl
 f6:=⟨Tryz.f27.name,by decide,Tryz.func27.trans (congrArg some (by kernel_rfl))⟩
 f14:=⟨Tryz.f44.name,by decide,Tryz.func44.trans (congrArg some (by kernel_rfl))⟩
 f15:=Tryz.func45.trans (congrArg some (by kernel_rfl))
 f20:=⟨Tryz.f60.name,by decide,Tryz.func60.trans (congrArg some (by kernel_rfl))⟩
 f21:=⟨Tryz.f61.name,by decide,Tryz.func61.trans (congrArg some (by kernel_rfl))⟩
 f22:=⟨Tryz.f62.name,by decide,Tryz.func62.trans (congrArg some (by kernel_rfl))⟩
 f23:=⟨Tryz.f63.name,by decide,Tryz.func63.trans (congrArg some (by kernel_rfl))⟩
 f24:=⟨Tryz.f64.name,by decide,Tryz.func64.trans (congrArg some (by kernel_rfl))⟩
 f25:=⟨Tryz.f65.name,by decide,Tryz.func65.trans (congrArg some (by kernel_rfl))⟩
 f26:=⟨Tryz.f66.name,by decide,Tryz.func66.trans (congrArg some (by kernel_rfl))⟩
 f27:=⟨Tryz.f67.name,by decide,Tryz.func67.trans (congrArg some (by kernel_rfl))⟩
 f28:=Tryz.func68.trans (congrArg some (by kernel_rfl))
 f29:=Tryz.func69.trans (congrArg some (by kernel_rfl))
 f46:=⟨Tryz.f82.name,by decide,Tryz.func82.trans (congrArg some (by kernel_rfl))⟩
 f47:=Tryz.func83.trans (congrArg some (by kernel_rfl))
 f48:=Tryz.func84.trans (congrArg some (by kernel_rfl))
 f49:=⟨Tryz.f85.name,by decide,Tryz.func85.trans (congrArg some (by kernel_rfl))⟩
 f50:=⟨Tryz.f86.name,by decide,Tryz.func86.trans (congrArg some (by kernel_rfl))⟩
 f57:=⟨Tryz.f99.name,by decide,Tryz.func99.trans (congrArg some (by kernel_rfl))⟩
 t0:=Tryz.underlying0
 a0:=Tryz.isAgg0
 z0:=Tryz.sizeOf0
 v0:=Tryz.zeroValue0
 t3:=Tryz.underlying3
 a3:=Tryz.isAgg3
 z3:=Tryz.sizeOf3
 v3:=Tryz.zeroValue3
 t4:=Tryz.underlying4
 a4:=Tryz.isAgg4
 z4:=Tryz.sizeOf4
 v4:=Tryz.zeroValue4
 t5:=Tryz.underlying5
 a5:=Tryz.isAgg5
 z5:=Tryz.sizeOf5
 v5:=Tryz.zeroValue5
 t9:=Tryz.underlying9
 a9:=Tryz.isAgg9
 z9:=Tryz.sizeOf9
 v9:=Tryz.zeroValue9
 t22:=Tryz.underlying22
 a22:=Tryz.isAgg22
 z22:=Tryz.sizeOf22
 v22:=Tryz.zeroValue22
 t25:=Tryz.underlying68
 a25:=Tryz.isAgg68
 z25:=Tryz.sizeOf68
 v25:=Tryz.zeroValue68
 t39:=Tryz.underlying84
 a39:=Tryz.isAgg84
 z39:=Tryz.sizeOf84
 v39:=Tryz.zeroValue84
 t45:=Tryz.underlying99
 a45:=Tryz.isAgg99
 z45:=Tryz.sizeOf99
 v45:=Tryz.zeroValue99
 t46:=Tryz.underlying100
 a46:=Tryz.isAgg100
 z46:=Tryz.sizeOf100
 v46:=Tryz.zeroValue100
 t50:=Tryz.underlying65
 a50:=Tryz.isAgg65
 z50:=Tryz.sizeOf65
 v50:=Tryz.zeroValue65
 t53:=Tryz.underlying34
 a53:=Tryz.isAgg34
 z53:=Tryz.sizeOf34
 v53:=Tryz.zeroValue34
 t55:=Tryz.underlying107
 a55:=Tryz.isAgg107
 z55:=Tryz.sizeOf107
 v55:=Tryz.zeroValue107
 t66:=Tryz.underlying116
 a66:=Tryz.isAgg116
 z66:=Tryz.sizeOf116
 v66:=Tryz.zeroValue116
 t70:=Tryz.underlying120
 a70:=Tryz.isAgg120
 z70:=Tryz.sizeOf120
 v70:=Tryz.zeroValue120
 t76:=Tryz.underlying137
 a76:=Tryz.isAgg137
 z76:=Tryz.sizeOf137
 v76:=Tryz.zeroValue137
 t77:=Tryz.underlying138
 a77:=Tryz.isAgg138
 z77:=Tryz.sizeOf138
 v77:=Tryz.zeroValue138}
end Go.Proofs
