/-Part 3 of the proof of frameFeedsCard_holds:Vok,Vda,Vdb ... No condition. -/
import Derived.Sort.LoopGhostIn
import Derived.RangeFuncNested
import Derived.Laws.CopyOwn
import Derived.Laws.OwnMore
import Derived.Laws.MakeOwn
import Derived.Deep.AppendLies
import Derived.ProofKit
import Derived.OpenShut
import Derived.Lib.SmallJoins
import Derived.Test.YtogbdjlelkepcaaGreatDoorFd1
import Derived.Test.YtogbdjlelkepcaaGreatDoorFd2
set_option maxRecDepth 100000
namespace Go.Proofs.YtogbdjlelkepcaaGreatDoor
open Go.RowKit
open Go.Act (eval)
open _root_.Array (getElem?_push getElem?_toList mem_toList_iff replicate size_push)
open _root_.Bool (and_eq_true not_eq_true' or_eq_true)
open Go.Calls (mono)
open Go.DataW (trod)
open Go.Deferred (ofValue)
open Go.Frame (atR)
open Go.Instr (storeAt)
open _root_.List (all_eq_true any_eq_true ext_getElem? getElem?_drop getElem?_eq_getElem getElem?_map getElem?_set getElem?_take length length_take map_cons mem_cons mem_cons_of_mem mem_cons_self mem_range nodup_cons nodup_nil take_length)
open _root_.Nat (beq beq_refl ble eq_of_beq_eq_true le_of_ble_eq_true le_refl le_trans lor lt_or_ge not_lt_zero zero_add)
open Go.Oper (uponIn wp)
open _root_.Option (isSome_iff_exists isSome_none map_eq_some_iff map_some)
open Go.Region (binds free free_spec noSelect ready wanted)
open Go.Result (andThen_ok)
open Go.World (alloc_heap_new putObj_size)
section
variable {P:Program}{G:aV}{F:ki}
def jw (P:Program)(G:aV)(call:jP):Prop:=∀ro f xs T K,call ro f xs T K→∃fn,P.funcs[f]?=some fn∧fn.body.isSome=true∧(fn.name== "runtime.NumGoroutine")=false∧VCx P G ro f xs T K
def lk (P:Program)(G:aV)(rnd:lI):Prop:=∀ro id xs T K,rnd ro id xs T K→WZ P G ro id xs T K
theorem VPi.of {ro:Nat}{o:Oper}{σ:List TV}{T:VT}{K:List TV→VT→Prop}(hd:di o.op=true)
  (h:∀g w ρ,RW g T w→(∀x,VR g w (bt G σ x) (ρ x))→∃m v g' w' y T',(execOp ρ o).run P w=.ok m w'∧iS m=some v∧K (bR σ o.dst y) T'∧VR g' w' y v∧Evo g w g' w'∧RW g' T' w'∧Fix ro g T w T' w'):VPi P G ro o σ T K:=by
 refine VPx.toI ?_ hd
 intro g w a next Q r hG hσ hn
 obtain ⟨m,v,g',w',y,T',h1,h2,hk,h3,h4,h5,h6⟩:=h g w a.eval r (fC hG hσ)
 unfold wp
 rw [h1]
 have e:∀v',VR g' w' y v'→next (a.put o.dst v') w':=λv' hv=>hn _ _ g' w' _ ⟨v',rfl⟩ hk h4 h5 (g8 (hσ.mono h4) o.dst hv) (da _ _ _) h6
 cases m<;>simp only [iS] at h2<;>try (cases h2)
 ·exact e v h3
 ·exact e undef h3
theorem nl {g:Gh}{w:World}{σ:List TV}{ρ:Operand→Value}(hρ:∀x,VR g w (bt G σ x) (ρ x)):∀(l:List Operand) (t:Nat),VR g w (dT (iI σ l) t) (ρ (.tmp t))
 |[],t=>.dead _
 | .tmp s::l,t=>by
  simp only [iI,dT]
  cases hb:beq s t with
  |true=>
   have:=eq_of_beq_eq_true hb
   subst this
   exact hρ (.tmp s)
  |false=>exact nl hρ l t
 | .const v::l,t=>nl hρ l t
 | .global n::l,t=>nl hρ l t
 | .func f::l,t=>nl hρ l t
theorem mB {g:Gh}{w:World}{σ:List TV}{ρ:Operand→Value}(hρ:∀x,VR g w (bt G σ x) (ρ x))(l:List Operand)(x:Operand):VR g w (aL G (iI σ l) x) (ρ x):=by
 cases x with
 |tmp t=>exact nl hρ l t
 |const v=>exact hρ (.const v)
 |global n=>exact hρ (.global n)
 |func f=>exact hρ (.func f)
theorem PA {ro:Nat}{o:Oper}{σ:List TV}{T:VT}{K:List TV→VT→Prop}(h:LO P G ro o σ T K):VPi P G ro o σ T K:=by
 obtain ⟨dst,op,ty,pos,af,gd⟩:=o
 have gen:(match gH P ro T op (bt G σ) with
   |some (y,T')=>K (bR σ dst y) T'
   |none=>aR 2 op (op.operands.toList.map (bt G σ)))→di op=true→VPi P G ro ⟨dst,op,ty,pos,af,gd⟩ σ T K:=by
  intro h hd
  split at h
  ·rename_i y T' hy
   refine VPi.of hd λg w ρ r hρ=> ?_
   obtain ⟨m,v,g',w',h1,h2,h3,h4,h5,h6⟩:=Fs (o:=⟨dst,op,ty,pos,af,gd⟩) r hy hρ
   exact ⟨m,v,g',w',y,T',h1,h2,h,h3,h4,h5,h6⟩
  ·exact h.elim
 unfold LO at h
 simp only at h
 cases op
 case next it isS=>
  cases isS with
  |true=>exact gen h rfl
  |false=>
   simp only at h
   split at h
   ·rename_i i l hl
    cases hr:ble ro i with
    |false=>rw [hr] at h;exact h.elim
    |true=>
     rw [hr] at h
     simp only [cond_true] at h
     refine VPi.of rfl λg w ρ r hρ=> ?_
     obtain ⟨p,hp,v,g',w',h1,h2,h3,h4,h5⟩:=I5 (P:=P) (ty:=ty) r hl (hρ it) (le_of_ble_eq_true hr)
     exact ⟨.value v,v,g',w',p.1,p.2,by simp [execOp,h1],rfl,Ft h p hp,h2,h3,h4,h5⟩
   ·exact h.elim
 case entry it=>
  simp only at h
  split at h
  ·rename_i y hy
   refine VPi.of rfl λg w ρ r hρ=> ?_
   obtain ⟨v,h1,h2⟩:=As (P:=P) r hy (hρ it)
   exact ⟨.value v,v,g,w,y,T,by simp [execOp,h2],rfl,h,h1,Evo.refl _ _,r,Fix.refl _ _ _ _⟩
  ·exact h.elim
 case binOp op t x y' ty'=>
  simp only at h
  cases hb:Bx P op t (bt G σ x) (bt G σ y') with
  |false=>
   rw [hb] at h
   simp only [cond_false] at h
   refine gen ?_ rfl
   split at h
   ·rename_i y T' hy;first | exact h | (rw [hy];exact h)
   ·exact h.elim
  |true=>
   rw [hb] at h
   refine VPi.of rfl λg w ρ r hρ=> ?_
   obtain ⟨b,hrun⟩:=LE (P:=P) (xo:=x) (yo:=y') hb (hρ x) (hρ y')
   have hl:Looks0 P g w (do eqGuard op t x y' (ρ x) (ρ y');binOp op t (ρ x) (ρ y')) (.val (.bool b)):=.of_ok (.val _) hrun
   obtain ⟨v,h1,h2⟩:=hl.next (n:=execOp ρ ⟨dst,.binOp op t x y' ty',ty,pos,af,gd⟩) rfl
   refine ⟨.value v,v,g,w,.val (.bool b),T,h2 w,rfl,?_,h1,Evo.refl _ _,r,Fix.refl _ _ _ _⟩
   cases b
   ·exact h.2
   ·exact h.1
 case range t x=>
  simp only at h
  split at h
  ·rename_i y T' hy
   refine VPi.of rfl λg w ρ r hρ=> ?_
   obtain ⟨h1,h2⟩:=I4 (P:=P) r hy (hρ x)
   obtain ⟨v,g',w',k1,k2,k3,k4,k5⟩:=h1
   exact ⟨.value v,v,g',w',y,T',by simp [execOp,k1],rfl,h,k2,k3,k4,Fix.of_same k5 h2⟩
  ·exact h.elim
 case defer c=>
  simp only at h
  exfalso
  have:gH P ro T (.defer c) (bt G σ)=none:=by
   simp [gH,bu,eJ,bs,dV,lH,vC,oH,pJ]
  rw [this] at h
  exact h
 all_goals exact gen h rfl
theorem E9 {op:Op}{ro:Nat}{T T':VT}{ev:Operand→TV}{y:TV}(h:gH P ro T op ev=some (y,T')):di op=true:=by
 cases op<;>first
  |rfl
  | (exfalso;simp [gH,bu,eJ,bs,dV,lH,vC,oH,pJ] at h)
theorem CE {op:Op}{T T':VT}{ev:Operand→TV}{y:TV}(h:vC P T op ev=some (y,T')):di op=true:=by
 cases op<;>first
  |rfl
  | (exfalso;simp [vC,dV,oH] at h)
theorem Jc {op:Op}{ro:Nat}{T:VT}{ev:Operand→TV}{y:TV}(h:bu P op ev=some y):gH P ro T op ev=some (y,T):=by
 unfold gH;rw [h]
theorem PC {ro:Nat}{o:Oper}{σ:List TV}{T:VT}{K:List TV→VT→Prop}(h:LP P G F ro o σ T K):VPi P G ro o σ T K:=by
 unfold LP at h
 have go:∀{y T'},gH P ro T o.op (aL G (iI σ o.op.operands.toList))=some (y,T')→K (bR σ o.dst y) T'→VPi P G ro o σ T K:=by
  intro y T' hy hk
  refine VPi.of (E9 hy) λg w ρ r hρ=> ?_
  obtain ⟨m,v,g',w',h1,h2,h3,h4,h5,h6⟩:=Fs (o:=o) r hy (mB hρ _)
  exact ⟨m,v,g',w',y,T',h1,h2,hk,h3,h4,h5,h6⟩
 split at h
 ·obtain ⟨⟨hy⟩,hk⟩:=h
  exact go (Jc hy) hk
 ·obtain ⟨hy,hk⟩:=h
  cases hy with
  |mk hy=>exact go hy hk
  |old hf hy=>
   refine VPi.of (CE hy) λg w ρ r hρ=> ?_
   obtain ⟨m,v,g',w',h1,h2,h3,h4,h5,h6⟩:=Fl (o:=o) r hf hy (mB hρ _)
   exact ⟨m,v,g',w',_,_,h1,h2,hk,h3,h4,h5,h6⟩
  |ent it ho ht hy=>
   obtain ⟨dst,op,ty,pos,af,gd⟩:=o
   simp only at ho hk hy
   subst ho ht
   refine VPi.of rfl λg w ρ r hρ=> ?_
   obtain ⟨v,h1,h2⟩:=As (P:=P) r hy (mB hρ _ it)
   exact ⟨.value v,v,g,w,_,_,by simp [execOp,h2],rfl,hk,h1,Evo.refl _ _,r,Fix.refl _ _ _ _⟩
 ·exact PA h
theorem VPx.ext {ro:Nat}{o:Oper}{fo:Operand}{args:Array Operand}{ats:Array TypeId}{σ:List TV}{T T':VT}{K:List TV→VT→Prop}{f:FuncId}{fi ca:List TV}{y:TV}
  (ho:o.op=.call ⟨.value fo,args,ats⟩) (hf:bt G σ fo=.fn (.func f) fi ca) (hx:G9 P ro T f (fi++args.toList.map (bt G σ)++ca)=some (y,T')) (k:K (bR σ o.dst y) T'):VPx P G ro o σ T K:=by
 intro g w a next Q r hG hσ hn
 have h1:=fC hG hσ fo
 rw [hf] at h1
 obtain ⟨us,vs,h2,h3,h4⟩:=h1.fn_inv
 have hargs:=(h3.app (jK (fC hG hσ) args.toList)).app h4
 unfold G9 at hx
 split at hx
 ·rename_i fn hfn
  cases hb:fn.body.isNone with
  |false=>rw [hb] at hx;cases hx
  |true=>
   rw [hb] at hx
   obtain ⟨v,g',w',k1,k2,k3,k4,k5⟩:=Ps r hfn hx hargs
   have hrun:(execOp a.eval o).run P w=.ok (.value v) w':=by
    obtain ⟨dst,op,ty,pos,af,gd⟩:=o
    simp only at ho;subst ho
    have e:(us.toArray++args.map a.eval)++vs.toArray=(us++args.toList.map a.eval++vs).toArray:=by
     apply Array.ext';simp
    simp only [execOp,resolve,h2,ofValue,invoke,Sem.run_bind,Sem.run_pure,andThen_ok,e]
    exact k1
   unfold wp
   rw [hrun]
   exact hn _ _ g' w' _ ⟨_,rfl⟩ k k3 k4 (g8 (hσ.mono k3) o.dst k2) (da _ _ _) k5
 ·cases hx
theorem oy {call:jP}{rnd:lI}(hc:jw P G call)(hr:lk P G rnd){ro:Nat}{o:Oper}{σ:List TV}{T:VT}{K:List TV→VT→Prop}(h:rU P G F call rnd ro o σ T K):VPi P G ro o σ T K:=by
 unfold rU at h
 split at h
 ·rename_i fo args ats ho
  split at h
  ·rename_i f fi ca hf
   split at h
   ·rename_i y T' hx
    exact (VPx.ext ho hf hx h).toI (by rw [ho];rfl)
   ·obtain ⟨fn,h1,h2,h3,h4⟩:=hc _ _ _ _ _ h
    exact (VPx.call ho hf h1 h2 h3 h4).toI (by rw [ho];rfl)
  ·rename_i id hf
   exact VPi.yld ho hf (hr _ _ _ _ _ h)
  ·exact h.elim
 ·exact PC h
theorem jx {ops:Array Oper}{σ:List TV}{o:Oper}{b:Bool}(h:cP ops σ o=some b){g:Gh}{w:World}{a:Act}(hσ:VRs g w σ a.tmps.toList):wanted o (yielded ops a.tmps)=b:=GL (LN h) hσ
theorem zj {call:jP}{rnd:lI}(hc:jw P G call)(hr:lk P G rnd){ro:Nat}{ops:Array Oper}{K:List TV→VT→Prop}{r:Option Nat}{QQ:Exit→Act→World→Prop}:∀(js:List Nat) (l:List Oper),js.map (ops[·]?)=l.map some→∀(σ:List TV) (T:VT),wb P G F call rnd ro ops l σ T K→∀g w (a:Act),RW g T w→GOk G g w→VRs g w σ a.tmps.toList→
  (∀σ' T' g' w' (a':Act),K σ' T'→Evo g w g' w'→RW g' T' w'→VRs g' w' σ' a'.tmps.toList→a'.defers=a.defers→Fix ro g T w T' w'→QQ .normal a' w')→wpOpsIn (dH r) 0 P ops QQ js a w
 |[],[],_,σ,T,h,g,w,a,rw0,hG,hσ,hq=>hq σ T g w a h (Evo.refl _ _) rw0 hσ rfl (Fix.refl _ _ _ _)
 |[],_::_,hl,_,_,_,_,_,_,_,_,_,_=>by simp at hl
 |_::_,[],hl,_,_,_,_,_,_,_,_,_,_=>by simp at hl
 |j::js,o::l,hl,σ,T,h,g,w,a,rw0,hG,hσ,hq=>by
  simp only [map_cons,List.cons.injEq] at hl
  obtain ⟨ho,hl⟩:=hl
  simp only [wpOpsIn,ho]
  simp only [wb] at h
  replace h:=gz h
  split at h
  ·rename_i b hb
   have hw:=jx hb hσ
   cases b with
   |true=>
    rw [if_pos hw]
    simp only [cond_true] at h
    exact oy hc hr h r g w a _ QQ rw0 hG hσ λσ' T' g' w' a' _ hk e r' hσ' hd' hx=>zj hc hr js l hl σ' T' hk g' w' a' r' (hG.mono e) hσ' λσ'' T'' g'' w'' a'' hk' e' r'' hσ'' hd'' hx'=>hq σ'' T'' g'' w'' a'' hk' (e.trans e') r'' hσ'' (hd''.trans hd') (hx.trans e hx')
   |false=>
    rw [if_neg (by rw [hw];exact Bool.false_ne_true)]
    refine ⟨λ_ _=>trivial,?_⟩
    exact zj hc hr js l hl _ T h g w _ rw0 hG (g8 hσ o.dst (.val undef)) λσ'' T'' g'' w'' a'' hk' e' r'' hσ'' hd'' hx'=>hq σ'' T'' g'' w'' a'' hk' e' r'' hσ'' (hd''.trans (da _ _ _)) hx'
  ·exact h.elim
theorem Jd (l:List Oper):(List.range l.length).map (l.toArray[·]?)=l.map some:=by
 apply ext_getElem?
 intro j
 simp only [getElem?_map,List.getElem?_toArray]
 rcases lt_or_ge j l.length with h | h
 ·simp [h]
 ·simp [List.getElem?_eq_none h,List.getElem?_eq_none (l:=List.range l.length) (by simpa using h)]
theorem xt {call:jP}{rnd:lI}(hc:jw P G call)(hr:lk P G rnd){rd:Option Nat}{ro id:Nat}{ops:Array Oper}{σ:List TV}{T:VT}{D:List Nat}{Q:KX}(h:wb P G F call rnd ro ops ops.toList σ T λσ T=>Q .normal σ T D):VWx P G rd ro (.region id ops false) σ T D Q:=by
 intro r g w a rw0 hG hσ hd hD hrd
 have e:=Jd ops.toList
 rw [Array.toArray_toList] at e
 have h2:ops.toList.length=ops.size:=by simp
 rw [h2] at e
 exact wpIn_region (zj hc hr (List.range ops.size) ops.toList e σ T h g w a rw0 hG hσ λσ' T' g' w' a' hk e r' hσ' hd' hx=>⟨g',σ',T',D,hk,e,r',hσ',by rw [hd',hd,oL e hD],iy e hD,hx⟩)
theorem jy {listed:Array Bool}{i n:Nat}(h:listed.size=n):(listed.setIfInBounds i true).size=n:=by simpa using h
theorem iz {call:jP}{rnd:lI}(hc:jw P G call)(hrr:lk P G rnd){ops:Array Oper}(hnd:∀(j:Nat) o,ops[j]?=some o→di o.op=true)(hsel:∀(j:Nat) (o:Oper) cs b,ops[j]?=some o→o.op≠ .select cs b){ro ro':Nat}(hle:ro' ≤ro){K:List TV→VT→Prop}{r:Option Nat}{gs:Gh}{Ts:VT}{ws:World}{ds:List Deferred}{QQ:Act→World→Prop}
  (hq:∀σ' T' g' w' (a':Act),K σ' T'→Evo gs ws g' w'→RW g' T' w'→VRs g' w' σ' a'.tmps.toList→a'.defers=ds→Fix ro' gs Ts ws T' w'→QQ a' w'):
  ∀(l:List (Nat × PK)) (listed:Array Bool) (T0:VT) (ph:Bool) (σ:List TV) (T:VT),ov ops l listed=true→ft P G F call rnd ro ops T0 ph (iW ops l) σ T K→∀g0 w0 g w (a:Act),RW g0 T0 w0→GOk G g w→RW g T w→VRs g w σ a.tmps.toList→a.defers=ds→
   Evo g0 w0 g w→Same g0 T0 w0 w→T.objs.take T0.objs.length=T0.objs→(ph=false→g=g0∧w=w0∧T=T0)→Evo gs ws g w→Fix ro' gs Ts ws T w→ro' ≤T0.objs.length→Closed ops listed→listed.size=ops.size→
   iH P r ops (g6 QQ) (SS g0 T0 w0 (eO l)) l.length listed a w
 |[],listed,T0,ph,σ,T,hp,h,g0,w0,g,w,a,r0,hG,r1,hσ,hds,he,hs,ht,hph,hes,hfx,hro,hcl,hsz=>by
  simp only [ov] at hp
  exact ⟨by simpa using hp,hq σ T g w a h hes r1 hσ hds hfx⟩
 | (i,k)::l,listed,T0,ph,σ,T,hp,h,g0,w0,g,w,a,r0,hG,r1,hσ,hds,he,hs,ht,hph,hes,hfx,hro,hcl,hsz=>by
  simp only [ov,and_eq_true,not_eq_true'] at hp
  obtain ⟨⟨hk,hib⟩,hp⟩:=hp
  have hib:=gw hib
  have hQ:∀e a w,e≠ .normal→¬g6 QQ e a w:=λe a w he=>by cases e<;>first | exact (he rfl).elim | exact λh=>h
  have hin:∀i,i∈ready .any ops listed→∃o,ops[i]?=some o:=λi hi=>by obtain ⟨_,o,ho,_⟩:=mem_ready.1 hi;exact ⟨o,ho⟩
  have toSS:Same g0 T0 w0 w→∀bars L,SS g0 T0 w0 bars L w:=λhs bars L _=>hs
  have take:∀(o:Oper) (x:TV),ops[i]?=some o→i∈ready .any ops listed→free .any ops listed i=true→
    ∀(Sr:World→Prop),Sr w→(∀(L:Array Bool) w,Closed ops L→L.getD i false=false→SS g0 T0 w0 (eO l) (L.setIfInBounds i true) w→Sr w)→
    (∀b,cP ops σ o=some b→cond b (∃v,VR g w x v∧(∀w',Sr w'→(execOp a.eval o).run P w'=.ok (.value v) w')∧∀v,VR g w x v→iH P r ops (g6 QQ) (SS g0 T0 w0 (eO l)) l.length (listed.setIfInBounds i true) (a.put o.dst v) w)
     (iH P r ops (g6 QQ) (SS g0 T0 w0 (eO l)) l.length (listed.setIfInBounds i true) (a.put o.dst undef) w))→
    (∃b,cP ops σ o=some b)→iH P r ops (g6 QQ) (SS g0 T0 w0 (eO l)) (l.length+1) listed a w:=by
   intro o x ho hri hfree Sr hSr hSS hgo ⟨b,hb⟩
   have hw:=jx hb hσ
   have h1:=hgo b hb
   cases b with
   |true=>
    obtain ⟨v,h2,h3,h4⟩:=h1
    exact tj ho hnd hsel hQ hSS (λL w h=>CA hib L w h) _ listed a w hcl (free_spec ho hfree) hri (.inl ⟨hw,h3⟩) hSr (toSS hs _ _) (h4 v h2)
   |false=>
    exact tj ho hnd hsel hQ hSS (λL w h=>CA hib L w h) _ listed a w hcl (free_spec ho hfree) hri (.inr ⟨hw,rfl⟩) hSr (toSS hs _ _) h1
  have hTl:T0.objs.length≤T.objs.length:=by
   have:=congrArg length ht
   rw [length_take] at this;omega
  rw [List.length_cons]
  cases k with
  |pk0=>
   have hbars:eO ((i,PK.pk0)::l)=eO l:=rfl
   rw [hbars]
   simp only [and_eq_true,List.contains_iff_mem] at hk
   obtain ⟨hfree,hri⟩:=hk
   obtain ⟨o,ho⟩:=hin i hri
   simp only [iW,ho] at h
   simp only [ft] at h
   replace h:=gz h
   have hcl':=hcl.set hri
   have hx0:∃x,cP ops σ o=some true→(∃v,VR g w x v∧∀w',(execOp a.eval o).run P w'=.ok (.value v) w')∧ft P G F call rnd ro ops T0 ph (iW ops l) (bR σ o.dst x) T K:=by
    by_cases hb:cP ops σ o=some true
    ·rw [hb] at h
     simp only [cond_true] at h
     split at h
     ·rename_i x hx
      exact ⟨x,λ_=>⟨by obtain ⟨hx⟩:=h.1;exact nk (P:=P) hx (mB (fC hG hσ) _),h.2⟩⟩
     ·exact h.elim
     ·split at h
      ·rename_i x hx
       exact ⟨x,λ_=>⟨nk (P:=P) hx (fC hG hσ),h⟩⟩
      ·exact h.elim
    ·exact ⟨.dead,λh=>absurd h hb⟩
   obtain ⟨x,hx0⟩:=hx0
   refine take o x ho hri hfree (λ_=>True) trivial (λ_ _ _ _ _=>trivial) ?_ ?_
   ·intro b hb
    cases b with
    |true=>
     obtain ⟨⟨v,h1,h2⟩,h⟩:=hx0 hb
     exact ⟨v,h1,λw' _=>h2 w',λv hv=>iz hc hrr hnd hsel hle hq l _ T0 ph _ T hp h g0 w0 g w _ r0 hG r1 (g8 hσ o.dst hv) ((da _ _ _).trans hds) he hs ht hph hes hfx hro hcl' (jy hsz)⟩
    |false=>
     rw [hb] at h
     simp only [cond_false] at h ⊢
     exact iz hc hrr hnd hsel hle hq l _ T0 ph _ T hp h g0 w0 g w _ r0 hG r1 (g8 hσ o.dst (.val undef)) ((da _ _ _).trans hds) he hs ht hph hes hfx hro hcl' (jy hsz)
   ·split at h
    ·exact ⟨_,by assumption⟩
    ·exact h.elim
  |pk1=>
   have hbars:eO ((i,PK.pk1)::l)=eO l:=rfl
   rw [hbars]
   simp only [and_eq_true,List.contains_iff_mem] at hk
   obtain ⟨⟨hfree,hri⟩,hanc⟩:=hk
   obtain ⟨o,ho⟩:=hin i hri
   simp only [iW,ho] at h
   simp only [ft] at h
   replace h:=gz h
   have hcl':=hcl.set hri
   have late:∀{ev:Operand→TV} {x:TV},(∀x,VR g w (ev x) (a.eval x))→xm P T0 ph o.op ev=some x→∃v,VR g w x v∧∀w',Same g0 T0 w0 w'→(execOp a.eval o).run P w'=.ok (.value v) w':=by
    intro ev x hev hx
    unfold xm at hx
    split at hx
    ·rename_i y hy
     injection hx with hx;subst hx
     obtain ⟨v,h1,h2⟩:=nk (P:=P) hy hev
     exact ⟨v,h1,λw' _=>h2 w'⟩
    ·cases ph with
     |true=>
      simp only [cond_true] at hx
      exact I2 (P:=P) r0 he hx hev
     |false=>
      obtain ⟨rfl,rfl,rfl⟩:=hph rfl
      simp only [cond_false] at hx
      exact th (P:=P) r1 hx hev
   have hx0:∃x,cP ops σ o=some true→(∃v,VR g w x v∧∀w',Same g0 T0 w0 w'→(execOp a.eval o).run P w'=.ok (.value v) w')∧ft P G F call rnd ro ops T0 ph (iW ops l) (bR σ o.dst x) T K:=by
    by_cases hb:cP ops σ o=some true
    ·rw [hb] at h
     simp only [cond_true] at h
     split at h
     ·rename_i x hx
      exact ⟨x,λ_=>⟨by obtain ⟨hx⟩:=h.1;exact late (mB (fC hG hσ) _) hx,h.2⟩⟩
     ·exact h.elim
     ·split at h
      ·rename_i x hx
       exact ⟨x,λ_=>⟨late (fC hG hσ) hx,h⟩⟩
      ·exact h.elim
    ·exact ⟨.dead,λh=>absurd h hb⟩
   obtain ⟨x,hx0⟩:=hx0
   refine take o x ho hri hfree (Same g0 T0 w0) hs (λL w h1 h2 h3=>Px hib (λb hb=>all_eq_true.1 hanc b hb) L w h1 h2 h3) ?_ ?_
   ·intro b hb
    cases b with
    |true=>
     obtain ⟨⟨v,h1,h2⟩,h⟩:=hx0 hb
     exact ⟨v,h1,h2,λv hv=>iz hc hrr hnd hsel hle hq l _ T0 ph _ T hp h g0 w0 g w _ r0 hG r1 (g8 hσ o.dst hv) ((da _ _ _).trans hds) he hs ht hph hes hfx hro hcl' (jy hsz)⟩
    |false=>
     rw [hb] at h
     simp only [cond_false] at h ⊢
     exact iz hc hrr hnd hsel hle hq l _ T0 ph _ T hp h g0 w0 g w _ r0 hG r1 (g8 hσ o.dst (.val undef)) ((da _ _ _).trans hds) he hs ht hph hes hfx hro hcl' (jy hsz)
   ·split at h
    ·exact ⟨_,by assumption⟩
    ·exact h.elim
  |pk2=>
   have hbars:eO ((i,PK.pk2)::l)=eO l:=rfl
   rw [hbars]
   have hk:ready .any ops listed= [i]:=by simpa using hk
   have hri:i∈ready .any ops listed:=by rw [hk];simp
   obtain ⟨o,ho⟩:=hin i hri
   simp only [iW,ho] at h
   simp only [ft] at h
   replace h:=gz h
   have hcl':=hcl.set hri
   refine vF hk ?_
   split at h
   ·rename_i b hb
    have hw:=jx hb hσ
    unfold wpOpIn
    simp only [ho]
    cases b with
    |true=>
     rw [if_pos hw]
     simp only [cond_true] at h
     refine oy hc hrr h r g w a _ _ r1 hG hσ λσ' T' g' w' a' _ hk' e' r' hσ' hd' hx'=> ?_
     have he':=he.trans e'
     have hs2:Same g0 T0 w0 w':=by
      refine ⟨λb o hb=>(he'.st b o hb).2,λid o b hid hl hb=> ?_⟩
      have hlt:=(List.getElem?_eq_some_iff.1 hid).1
      have h1:T.objs[id]?=some o:=by
       have hid':=hid
       rw [←ht,getElem?_take,if_pos hlt] at hid'
       exact hid'
      rw [hx'.heap id o b hlt h1 hl (he.obj id b hb),hs.obj id o b hid hl hb]
     have ht2:T'.objs.take T0.objs.length=T0.objs:=by
      refine Eq.trans ?_ ht
      apply ext_getElem?
      intro j
      rw [getElem?_take,getElem?_take]
      split
      ·rename_i hj
       exact hx'.same j hj (by omega)
      ·rfl
     refine ⟨λ_=>hs2,?_⟩
     exact iz hc hrr hnd hsel hle hq l _ T0 true σ' T' hp hk' g0 w0 g' w' a' r0 (hG.mono e') r' hσ' (hd'.trans hds) he' hs2 ht2 (λh=>by cases h) (hes.trans e') (hfx.trans hes (hx'.mono hro)) hro hcl' (jy hsz)
    |false=>
     rw [if_neg (by rw [hw];exact Bool.false_ne_true)]
     simp only [cond_false] at h
     refine ⟨λ_ _=>trivial,λ_=>hs,?_⟩
     exact iz hc hrr hnd hsel hle hq l _ T0 true _ T hp h g0 w0 g w _ r0 hG r1 (g8 hσ o.dst (.val undef)) ((da _ _ _).trans hds) he hs ht (λh=>by cases h) hes hfx hro hcl' (jy hsz)
   ·exact h.elim
  |pk3=>
   have hbars:eO ((i,PK.pk3)::l)=i::eO l:=rfl
   rw [hbars]
   have hk:ready .any ops listed= [i]:=by simpa using hk
   have hri:i∈ready .any ops listed:=by rw [hk];simp
   obtain ⟨o,ho⟩:=hin i hri
   simp only [iW,ho] at h
   simp only [ft] at h
   replace h:=gz h
   have hcl':=hcl.set hri
   have hil:i<listed.size:=by rw [hsz];exact (Array.getElem?_eq_some_iff.1 ho).1
   have hset:(listed.setIfInBounds i true).getD i false=true:=by simp [hil]
   have hSi:∀(L:Array Bool) w,L.getD i false=true→SS g0 T0 w0 (i::eO l) L w:=λL w hL hb=>by
    have:=hb i (by simp)
    rw [hL] at this;cases this
   refine vF hk ?_
   split at h
   ·rename_i b hb
    have hw:=jx hb hσ
    unfold wpOpIn
    simp only [ho]
    cases b with
    |true=>
     rw [if_pos hw]
     simp only [cond_true] at h
     refine oy hc hrr h r g w a _ _ r1 hG hσ λσ' T' g' w' a' _ hk' e' r' hσ' hd' hx'=> ?_
     refine ⟨hSi _ _ hset,ny (S':=SS g' T' w' (eO l)) hSi _ _ _ _ hset ?_⟩
     exact iz hc hrr hnd hsel hle hq l _ T' false σ' T' hp hk' g' w' g' w' a' r' (hG.mono e') r' hσ' (hd'.trans hds) (Evo.refl _ _) (Same.refl _ _ _) take_length (λ_=>⟨rfl,rfl,rfl⟩) (hes.trans e') (hfx.trans hes (hx'.mono hle)) (le_trans (le_trans hro hTl) hx'.len) hcl' (jy hsz)
    |false=>
     rw [if_neg (by rw [hw];exact Bool.false_ne_true)]
     simp only [cond_false] at h
     refine ⟨λ_ _=>trivial,hSi _ _ hset,ny (S':=SS g T w (eO l)) hSi _ _ _ _ hset ?_⟩
     exact iz hc hrr hnd hsel hle hq l _ T false _ T hp h g w g w _ r1 hG r1 (g8 hσ o.dst (.val undef)) ((da _ _ _).trans hds) (Evo.refl _ _) (Same.refl _ _ _) take_length (λ_=>⟨rfl,rfl,rfl⟩) hes hfx (le_trans hro hTl) hcl' (jy hsz)
   ·exact h.elim
end
section
variable {P:Program}{G:aV}
theorem mC {T0 T:VT}(h:T.objs.take T0.objs.length=T0.objs){id:Nat}{o:VO}(k:T0.objs[id]?=some o):T.objs[id]?=some o:=by
 have hlt:=(List.getElem?_eq_some_iff.1 k).1
 rw [←h,getElem?_take,if_pos hlt] at k
 exact k
theorem tA {T0 T:VT}(h:T.objs.take T0.objs.length=T0.objs){x:TV}{n:Nat}{cs:List TV}(k:eR T0 x n=some cs):eR T x n=some cs:=by
 cases x
 case ptr id off=>
  simp only [eR] at k ⊢
  split at k
  ·rename_i cs' hid;rw [mC h hid];exact k
  ·rename_i cs' hid;rw [mC h hid];exact k
  ·cases k
 all_goals first
  |exact k
  | (simp only [eR] at k;done)
theorem He {T0 T:VT}(h:T.objs.take T0.objs.length=T0.objs){t:TypeId}{x y:TV}(k:lC P T0 t x=some y):lC P T t x=some y:=by
 unfold lC at k ⊢
 cases hu:P.underlying t with
 |none=>rw [hu] at k;cases k
 |some d=>
  cases hi:P.info? t with
  |none=>rw [hu,hi] at k;cases k
  |some i=>
   rw [hu,hi] at k
   simp only at k ⊢
   cases hb:oF d with
   |true=>
    rw [hb] at k
    simp only [if_true,map_eq_some_iff] at k ⊢
    obtain ⟨cs,h1,h2⟩:=k
    exact ⟨cs,tA h h1,h2⟩
   |false=>
    rw [hb] at k
    simp only [Bool.false_eq_true,if_false] at k ⊢
    split at k
    ·rename_i z hz;rw [tA h hz];exact k
    ·cases k
theorem Je {T0 T:VT}(h:T.objs.take T0.objs.length=T0.objs){t:TypeId}{x y:TV}(k:qv P T0 t x=some y):qv P T t x=some y:=by
 unfold qv at k ⊢
 cases hu:P.underlying t with
 |none=>rw [hu] at k;cases k
 |some d=>
  rw [hu] at k
  cases d<;>try (exact k)
  cases x
  case val v=>
   cases v<;>try (exact k)
   rename_i m
   cases m<;>exact k
  case map id=>
   have k':(match T0.objs[id]? with
    |some (VO.map _ _ es _)=>some (TV.val (.int .i64 es.length))
    |_=>none)=some y:=k
   show (match T.objs[id]? with
    |some (VO.map _ _ es _)=>some (TV.val (.int .i64 es.length))
    |_=>none)=some y
   split at k'
   ·rename_i hid;rw [mC h hid];exact k'
   ·cases k'
  all_goals exact k
theorem Hf {T0 T:VT}(h:T.objs.take T0.objs.length=T0.objs){n:Nat}{x:TV}{y:List (List TV)}(k:cd T0 n x=some y):cd T n x=some y:=by
 cases x
 case row sz id off m=>
  simp only [cd] at k ⊢
  split at k
  ·rename_i hid;rw [mC h hid];exact k
  ·cases k
 case sl id off m c=>
  simp only [cd] at k ⊢
  split at k
  ·rename_i hid;rw [mC h hid];exact k
  ·rename_i hid;rw [mC h hid];exact k
  ·cases k
 case val v=>
  cases v<;>try (exact k)
  rename_i q m c
  cases q<;>try (exact k)
  cases m<;>exact k
 all_goals exact k
theorem Fa {T0 T:VT}(h:T.objs.take T0.objs.length=T0.objs){s d:TypeId}{x y:TV}(k:g9 P T0 s d x=some y):g9 P T s d x=some y:=by
 unfold g9 at k ⊢
 split at k
 ·split at k
  ·cases x
   case val v=>exact k
   all_goals
    simp only at k ⊢
    split at k
    ·rename_i es hes;rw [Hf h hes];exact k
    ·cases k
  ·cases k
 ·cases k
theorem CF {T0 T:VT}(h:T.objs.take T0.objs.length=T0.objs){t:TypeId}{m k y:TV}{ok:Bool}(q:hJ P T0 t m k ok=some y):hJ P T t m k ok=some y:=by
 unfold hJ at q ⊢
 split at q
 ·rename_i kt et kv hu hk
  split at q
  ·rename_i sh i hs hi
   split at q
   ·cases hb:sh.fits kv with
    |false=>rw [hb] at q;cases q
    |true=>
     rw [hb] at q
     simp only [cond_true] at q ⊢
     cases m
     case val v=>
      cases v<;>try (exact q)
      rename_i m
      cases m<;>exact q
     case map id=>
      have q':(match T0.objs[id]? with
       |some (VO.map sh' look _ _)=>bif y9 sh sh' then some (ou ok (look kv) _) else none
       |_=>none)=some y:=q
      show (match T.objs[id]? with
       |some (VO.map sh' look _ _)=>bif y9 sh sh' then some (ou ok (look kv) _) else none
       |_=>none)=some y
      split at q'
      ·rename_i hid;rw [mC h hid];exact q'
      ·cases q'
     all_goals exact q
   ·cases q
  ·cases q
 ·cases q
theorem Hg {T0 T:VT}(h:T.objs.take T0.objs.length=T0.objs){op:Op}{ev:Operand→TV}{y:TV}(k:dV P T0 op ev=some y):dV P T op ev=some y:=by
 cases op<;>simp only [dV] at k ⊢<;>try (exact k)
 case load t a=>exact He h k
 case call c=>
  obtain ⟨cal,args,ats⟩:=c
  unfold jq at k ⊢
  split at k
  ·rename_i hc
   split at k
   ·exact Je h k
   ·cases k
  ·exact k
  ·exact k
  ·cases k
theorem m8 {T0 T:VT}(h:T.objs.take T0.objs.length=T0.objs){op:Op}{ev:Operand→TV}{y:TV}(k:bs P T0 op ev=some y):bs P T op ev=some y:=by
 cases op<;>simp only [bs] at k ⊢<;>try (exact Hg h k)
 case convert s d x=>
  split at k
  ·rename_i r hr
   rw [Fa h hr];exact k
  ·rename_i hn
   have e:g9 P T s d (ev x)=none∨∃r,g9 P T s d (ev x)=some r:=by cases g9 P T s d (ev x)<;>simp
   rcases e with e | ⟨r,e⟩
   ·rw [e];exact k
   ·exfalso
    simp only [dV,Option.bind_eq_some_iff] at k
    obtain ⟨v,hv,k⟩:=k
    --a value that is known whole is no row
    unfold g9 at e
    split at e
    ·rename_i el hs hd
     split at e
     ·cases hx:ev x<;>rw [hx] at e hv<;>simp only at e<;>try (cases e)
      all_goals try (simp [ea] at hv;done)
      all_goals
       rename_i cs
       simp only [cd] at e
       cases e
     ·cases e
    ·cases e
 case lookup t m q ok=>exact CF h k
def nm (P:Program)(G:aV)(Tp:VT)(o:Oper)(s:List TV)(y:TV):Prop:=∀g w (ρ:Operand→Value) T,T.objs.take Tp.objs.length=Tp.objs→RW g T w→(∀x,VR g w (bt G s x) (ρ x))→
 ∃m v g' w',(execOp ρ o).run P w=.ok m w'∧iS m=some v∧VR g' w' y v∧Evo g w g' w'∧RW g' T w'∧Same g T w w'
theorem CG (T:VT):T.objs.take (⟨[],[]⟩:VT).objs.length=(⟨[],[]⟩:VT).objs:=by simp
theorem wc {o:Oper}{s:List TV}{y:TV}{ev:(Operand→TV)}(hev:∀g w (ρ:Operand→Value),(∀x,VR g w (bt G s x) (ρ x))→∀x,VR g w (ev x) (ρ x))(h:bu P o.op ev=some y)(Tp:VT):nm P G Tp o s y:=by
 intro g w ρ T _ r hρ
 obtain ⟨v,h1,h2⟩:=nk (P:=P) h (hev g w ρ hρ)
 exact ⟨_,v,g,w,h2 w,rfl,h1,Evo.refl _ _,r,Same.refl _ _ _⟩
theorem LQ {T0:VT}{o:Oper}{s:List TV}{y:TV}(h:bs P T0 o.op (bt G s)=some y):nm P G T0 o s y:=by
 intro g w ρ T hT r hρ
 obtain ⟨v,h1,h2⟩:=th (P:=P) r (m8 hT h) hρ
 exact ⟨_,v,g,w,h2 w (Same.refl _ _ _),rfl,h1,Evo.refl _ _,r,Same.refl _ _ _⟩
theorem Jf {T0:VT}{o:Oper}{s:List TV}{y:TV}(h:Ha P G T0 o s y):nm P G ⟨[],[]⟩ o s y∨(isRead P o.op=true∧bu P o.op (bt G s)=none∧bs P T0 o.op (bt G s)=some y):=by
 unfold Ha at h
 split at h
 ·rename_i t d x hop
  cases hr:isRead P (.convert t d x) with
  |false=>
   rw [hr] at h
   obtain ⟨hpu⟩:=h
   exact .inl (wc (λg w ρ hρ=>mB hρ _) hpu _)
  |true=>
   rw [hr] at h
   obtain ⟨h0,h1⟩:=h
   rw [hop]
   exact .inr ⟨hr,by simp [bu,eJ,h0],by simp only [bs,h1]⟩
 ·rename_i t m k ok hop
  obtain ⟨h1⟩:=h
  rw [hop]
  exact .inr ⟨rfl,by simp [bu,eJ],by simp only [bs,h1]⟩
 ·obtain ⟨hpu⟩:=h
  exact .inl (wc (λg w ρ hρ=>mB hρ _) hpu _)
theorem Jg {T0:VT}{o:Oper}{s:List TV}{y:TV}(h:Hb P T0 o.op (bt G s)=some y):nm P G ⟨[],[]⟩ o s y∨(isRead P o.op=true∧bu P o.op (bt G s)=none∧bs P T0 o.op (bt G s)=some y):=by
 unfold Hb at h
 split at h
 ·rename_i x hx
  injection h with h;subst h
  exact .inl (wc (λ_ _ _ h=>h) hx _)
 ·split at h
  ·rename_i x hx
   injection h with h;subst h
   cases hr:isRead P o.op with
   |false=>rw [hr] at hx;cases hx
   |true=>
    rw [hr] at hx
    simp only [cond_true] at hx
    exact .inr ⟨rfl,by assumption,hx⟩
  ·split at h
   ·rename_i t n ps hop
    left
    intro g w ρ T hT r hρ
    have hm:kE P T o.op (bt G s)=some (y,T):=by
     rw [hop]
     simp only [kE,map_eq_some_iff] at h ⊢
     obtain ⟨z,⟨y',h1,h2⟩,h3⟩:=h
     subst h2 h3
     exact ⟨_,h1,rfl⟩
    obtain ⟨v,g',w',h1,h2,h3,h4,h5⟩:=Cl (P:=P) r hm hρ
    exact ⟨_,v,g',w',h1,rfl,h2,h3,h4,h5⟩
   ·cases h
def AgreeOut (id off n:Nat)(T1 T2:VT):Prop:=(∀j,j≠id→T1.objs[j]?=T2.objs[j]?)∧(T1.objs[id]?=T2.objs[id]?∨
 (∃c1 c2,T1.objs[id]?=some (.cells c1)∧T2.objs[id]?=some (.cells c2)∧c1.length=c2.length∧∀k,(k<off∨off+n≤k)→c1[k]?=c2[k]?)∨
 (∃c1 c2,T1.objs[id]?=some (.row c1)∧T2.objs[id]?=some (.row c2)∧c1.length=c2.length∧∀k,(k<off∨off+n≤k)→c1[k]?=c2[k]?))
theorem Av {cs new:List TV}{off:Nat}(h:off+new.length≤cs.length):(ci cs off new).length=cs.length∧∀k,(k<off∨off+new.length≤k)→cs[k]?=(ci cs off new)[k]?:=by
 unfold ci
 refine ⟨by simp;omega,λk hk=> ?_⟩
 have hl:(cs.take off).length=off:=by simp;omega
 rcases hk with hk | hk
 ·rw [List.append_assoc,List.getElem?_append_left (by omega),getElem?_take,if_pos hk]
 ·rw [List.getElem?_append_right (by simp;omega),getElem?_drop]
  congr 1
  simp;omega
theorem Jh {ro:Nat}{T T':VT}{t:TypeId}{id off:Nat}{x:TV}{new:List TV}(hn:b6 x=some new)(h:xp P ro T t (.ptr id off) x=some T'):AgreeOut id off new.length T T'∧T'.objs.length=T.objs.length:=by
 unfold xp at h
 split at h
 ·rename_i y T1 h1
  injection h with h;subst h
  unfold qM at h1
  simp only [hn] at h1
  split at h1
  ·rename_i cs new' i hid hnew hi
   injection hnew with hnew;subst hnew
   cases hb:(beq i.size new.length&&ble (off+new.length) cs.length&&new.all g7&&ble ro id) with
   |false=>rw [hb] at h1;cases h1
   |true=>
    rw [hb] at h1
    simp only [and_eq_true] at hb
    have hle:=le_of_ble_eq_true hb.1.1.2
    injection h1 with h1;injection h1 with _ h1;subst h1
    have hlt:=(List.getElem?_eq_some_iff.1 hid).1
    obtain ⟨k1,k2⟩:=Av hle
    exact ⟨⟨λj hj=>by simp only [getElem?_set];rw [if_neg (λe=>hj e.symm)],.inr (.inr ⟨cs,_,hid,by simp [hlt],k1.symm,k2⟩)⟩,by simp⟩
  ·cases h1
 ·cases hr:ble ro id with
  |false=>simp only [hr] at h;cases h
  |true=>
   simp only [hr,cond_true,map_eq_some_iff] at h
   obtain ⟨⟨y,T1⟩,h1,h2⟩:=h
   simp only at h2;subst h2
   unfold lE at h1
   simp only [hn] at h1
   split at h1
   ·rename_i cs new' i hid hnew hi
    injection hnew with hnew;subst hnew
    split at h1
    ·rename_i hh
     injection h1 with h1;injection h1 with _ h1;subst h1
     have hlt:=(List.getElem?_eq_some_iff.1 hid).1
     obtain ⟨k1,k2⟩:=Av hh.2.1
     exact ⟨⟨λj hj=>by simp only [getElem?_set];rw [if_neg (λe=>hj e.symm)],.inr (.inl ⟨cs,_,hid,by simp [hlt],k1.symm,k2⟩)⟩,by simp⟩
    ·cases h1
   ·cases h1
theorem AgreeOut.take {id off n m:Nat}{T1 T2:VT}(h:AgreeOut id off n T1 T2):AgreeOut id off n (T1.takeO m) (T2.takeO m):=by
 have e:∀(T:VT) (j:Nat),(T.takeO m).objs[j]?=if j<m then T.objs[j]? else none:=λT j=>by simp [VT.takeO,getElem?_take]
 refine ⟨λj hj=>by rw [e,e,h.1 j hj],?_⟩
 rw [e,e]
 by_cases hm:id<m
 ·rw [if_pos hm,if_pos hm];exact h.2
 ·rw [if_neg hm,if_neg hm];exact .inl rfl
theorem vG {c1 c2:List TV}{off n off' m:Nat}(hl:c1.length=c2.length)(h:∀k,(k<off∨off+n≤k)→c1[k]?=c2[k]?)(ha:off' +m≤off∨off+n≤off'):(c1.drop off').take m=(c2.drop off').take m:=by
 apply ext_getElem?
 intro k
 rw [getElem?_take,getElem?_take,getElem?_drop,getElem?_drop]
 split
 ·exact h _ (by omega)
 ·rfl
theorem Hh {id off n:Nat}{T1 T2:VT}(h:AgreeOut id off n T1 T2){op:Op}{ev:Operand→TV}(ha:apartRead P id off n op ev=true):bs P T1 op ev=bs P T2 op ev:=by
 have hne:∀id',(!(beq id' id))=true→T1.objs[id']?=T2.objs[id']?:=λid' hb=>h.1 id' (by
  rintro rfl
  rw [beq_refl] at hb;cases hb)
 unfold apartRead at ha
 split at ha
 ·rename_i t a
  simp only [bs,dV]
  split at ha
  ·rename_i id' off' hev
   rw [hev]
   have key:∀m,(P.info? t).map (λi=>decide (m≤max i.size 1))=some true→eR T1 (.ptr id' off') m=eR T2 (.ptr id' off') m:=by
    intro m hm
    simp only [eR]
    by_cases hid:id'=id
    ·subst hid
     rw [beq_refl] at ha
     simp only [Bool.not_true,Bool.false_or] at ha
     split at ha
     ·rename_i i hi
      rw [hi] at hm
      simp only [map_some,Option.some.injEq,decide_eq_true_eq] at hm
      have hap:off' +m≤off∨off+n≤off':=by
       simp only [or_eq_true] at ha
       rcases ha with ha | ha
       ·have:=le_of_ble_eq_true ha
        exact .inl (by omega)
       ·exact .inr (le_of_ble_eq_true ha)
      rcases h.2 with h2 | ⟨c1,c2,h2,h3,h4,h5⟩ | ⟨c1,c2,h2,h3,h4,h5⟩
      ·rw [h2]
      ·rw [h2,h3]
       simp only
       rw [h4,vG h4 h5 hap]
      ·rw [h2,h3]
       simp only
       rw [h4,vG h4 h5 hap]
     ·cases ha
    ·rw [h.1 id' hid]
   unfold lC
   cases hu:P.underlying t with
   |none=>rfl
   |some d=>
    cases hi:P.info? t with
    |none=>rfl
    |some i=>
     simp only
     rw [key i.size (by rw [hi];simp;omega),key 1 (by rw [hi];simp;omega)]
  ·rename_i cs hev
   rw [hev];rfl
  ·cases ha
 ·rename_i t m k ok
  simp only [bs]
  split at ha
  ·rename_i id' hev
   rw [hev]
   unfold hJ
   simp only [hne id' ha]
  ·cases ha
 ·rename_i c
  simp only [bs,dV]
  unfold jq
  split at ha
  ·rename_i x hc hx
   simp only [hc,hx]
   split at ha
   ·rename_i id' hev
    split
    ·rename_i t x' h1 h2
     injection h2 with h2;subst h2
     rw [hev]
     unfold qv
     simp only [hne id' ha]
    ·rfl
   ·cases ha
  ·cases ha
 ·cases ha
def gP (g:Gh)(B:Nat→Prop):Gh:={g with fr:=λb=>g.fr b∨B b}
theorem TokOk.gh {g g':Gh}{w:World}(ho:g'.obj=g.obj)(ht:g'.tail=g.tail){tok:Tok}{size n b o c:Nat}(h:TokOk g w tok size n b o c):TokOk g' w tok size n b o c:=by
 cases tok<;>simp only [TokOk] at h ⊢<;>try (exact h)
 ·rw [ht];exact h
 ·rw [ho];exact h
theorem NilTok.gh {g g':Gh}(ht:g'.tail=g.tail){tok:Tok}{size:Nat}(h:NilTok g tok size):NilTok g' tok size:=by
 cases tok<;>simp only [NilTok] at h ⊢<;>try (exact h)
 rw [ht];exact h
theorem VR.gh {g g':Gh}{w:World}(ho:g'.obj=g.obj)(hs:g'.st=g.st)(ht:g'.tail=g.tail){x:TV}{u:Value}(k:VR g w x u):VR g' w x u:=by
 induction k with
 |val v=>exact .val v
 |dead v=>exact .dead v
 |ptr hb=>exact .ptr (by rw [ho];exact hb)
 |sl hb=>exact .sl (by rw [ho];exact hb)
 |map hb=>exact .map (by rw [ho];exact hb)
 |yld hb=>exact .yld (by rw [ho];exact hb)
 |row hb hl hn hm hc=>exact .row (by rw [ho];exact hb) hl hn hm hc
 |nil hk=>exact .nil (hk.gh ht)
 |odd a hk=>exact .odd a (hk.gh ho ht)
 |vec hn hc hz hk hl h1 hs' hw _ ih=>exact .vec hn hc hz (hk.gh ho ht) hl h1 (λj hj=>by rw [hs];exact hs' j hj) hw ih
 |elt hl h1 hs' hw _ ih=>exact .elt hl h1 (λj hj=>by rw [hs];exact hs' j hj) hw ih
 |agg hl _ ih=>exact .agg hl ih
 |tup hl _ ih=>exact .tup hl ih
 |fn hl _ hl2 _ ih ih2=>exact .fn hl ih hl2 ih2
 |ifc _ ih=>exact .ifc ih
theorem VR.toP {g:Gh}{w:World}{B:Nat→Prop}{x:TV}{u:Value}(k:VR g w x u):VR (gP g B) w x u:=VR.gh (g:=g) (g':=gP g B) rfl rfl rfl k
theorem VR.ofP {g:Gh}{w:World}{B:Nat→Prop}{x:TV}{u:Value}(k:VR (gP g B) w x u):VR g w x u:=VR.gh (g:=gP g B) (g':=g) rfl rfl rfl k
theorem VRs.gh {g g':Gh}{w:World}(ho:g'.obj=g.obj)(hs:g'.st=g.st)(ht:g'.tail=g.tail){xs:List TV}{us:List Value}(k:VRs g w xs us):VRs g' w xs us:=⟨k.1,λj x u hx hu=>(k.2 j x u hx hu).gh ho hs ht⟩
theorem OR.gh {g g':Gh}{w:World}(ho:g'.obj=g.obj)(hs:g'.st=g.st)(ht:g'.tail=g.tail){b:Nat}{o:VO}(h:OR g w b o):OR g' w b o:=by
 cases o with
 |cells cs=>obtain ⟨us,t,h1,h2,h3⟩:=h;exact ⟨us,t,h1,h2.gh ho hs ht,h3⟩
 |row cs=>obtain ⟨us,t,h1,h2,h3,h4⟩:=h;exact ⟨us,t,h1,h2,h3.gh ho hs ht,h4⟩
 |map sh look es ck=>obtain ⟨ms,h1,h2,h3,h4⟩:=h;exact ⟨ms,h1,h2,h3.gh ho hs ht,h4⟩
 |iter m since seen stepped=>obtain ⟨mb,h1,h2⟩:=h;exact ⟨mb,h1,h2.gh ho hs ht⟩
 |siter s pos=>exact h
 |loop st pend σ ps asg body=>obtain ⟨us,fn,db,h1,h2⟩:=h;exact ⟨us,fn,db,h1,h2.gh ho hs ht⟩
 |defd=>exact h
 |gone=>trivial
theorem RW.frs {g g':Gh}{T:VT}{w:World}(r:RW g T w)(ho:g'.obj=g.obj)(hs:g'.st=g.st)(ht:g'.tail=g.tail)
  (hf:∀b,g'.fr b→b<w.heap.size∧(g.fr b∨((∀(id:Nat) o,T.objs[id]?=some o→o.live=true→g.obj id≠some b)∧∀(k:Nat) x,g.tail k=some x→¬x.has b))):RW g' T w:=by
 refine ⟨?_,?_,?_,?_,λb h=>(hf b h).1,?_,?_,?_,?_,?_,?_,?_⟩
 ·intro id o h hl
  obtain ⟨b,h1,h2,h3,h4⟩:=r.obj id o h hl
  refine ⟨b,by rw [ho];exact h1,h2.gh ho hs ht,λhb=> ?_,λo=>by rw [hs];exact h4 o⟩
  rcases (hf b hb).2 with h5 | h5
  ·exact h3 h5
  ·exact h5.1 id o h hl h1
 ·intro i j oi oj b h1 l1 h2 l2 b1 b2
  rw [ho] at b1 b2
  exact r.inj i j oi oj b h1 l1 h2 l2 b1 b2
 ·intro id hid;rw [ho];exact r.out id hid
 ·intro b o h;rw [hs] at h;exact r.st b o h
 ·intro k p h
  obtain ⟨x,h1,h2,h3,h4⟩:=r.tl k p h
  refine ⟨x,by rw [ht];exact h1,h2,h3,λb o hi=> ?_⟩
  obtain ⟨h5,h6,h7,h8⟩:=h4 b o hi
  refine ⟨h5,h6,by rw [hs];exact h7,λhb=> ?_⟩
  rcases (hf b hb).2 with h9 | h9
  ·exact h8 h9
  ·exact h9.2 k x h1 (.inl ⟨o,hi⟩)
 ·intro k hk;rw [ht];exact r.tout k hk
 ·intro i j x y b h1 h2;rw [ht] at h1 h2;exact r.tinj i j x y b h1 h2
 ·intro i oi b k x h1 l1 b1 hx;rw [ho] at b1;rw [ht] at hx;exact r.tobj i oi b k x h1 l1 b1 hx
 ·intro k x hx
  rw [ht] at hx
  intro h1 h2
  obtain ⟨h3,h4,h5,h6,h7⟩:=r.own k x hx h1 h2
  refine ⟨h3,h4,h5,h6,λhb=> ?_⟩
  rcases (hf x.b hb).2 with h8 | h8
  ·exact h7 h8
  ·exact h8.2 k x hx (.inr ⟨h1,h2,rfl⟩)
 ·intro k x hx;rw [ht] at hx;exact r.own0 k x hx
 ·intro k x hx;rw [ht] at hx;exact r.tlo k x hx
theorem RW.lessFr {g g':Gh}{T:VT}{w:World}(r:RW g T w)(ho:g'.obj=g.obj)(hs:g'.st=g.st)(ht:g'.tail=g.tail)(hf:∀b,g'.fr b→g.fr b):RW g' T w:=
 r.frs ho hs ht λb h=>⟨r.fr b (hf b h),.inl (hf b h)⟩
theorem Evo.base {g g1:Gh}{w w1:World}{B:Nat→Prop}(e:Evo (gP g B) w g1 w1):∃g',g1=gP g' B∧g'.fr=g.fr∧Evo g w g' w1∧(∀b,B b→w1.heap[b]?=w.heap[b]?)∧∀b o,B b→g'.st b o→g.st b o:=by
 have hfr:=e.fr
 refine ⟨{g1 with fr:=g.fr},?_,rfl,⟨e.os,e.tape,e.output,e.size,e.obj,e.st,rfl,λb hb=>e.frb b (.inl hb),λb o hb h=>e.frs b o (.inl hb) h,e.tail,e.tnew,e.csz⟩,λb hb=>e.frb b (.inr hb),λb o hb h=>e.frs b o (.inr hb) h⟩
 cases g1
 simp only [gP] at hfr ⊢
 rw [hfr]
theorem RW.off {g:Gh}{T:VT}{w w':World}{b:Nat}(r:RW g T w)(hfr:g.fr b)(hst:∀o,¬g.st b o)(hos:w'.os=w.os∧w'.tape=w.tape∧w'.output=w.output)(hsz:w'.heap.size=w.heap.size)(hoth:∀c,c≠b→w'.heap[c]?=w.heap[c]?)(hcs:cf w' b=cf w b):
  RW g T w'∧∀g0:Gh,g0.st=g.st→¬g0.fr b→Evo g0 w g0 w':=by
 have cellne:∀c p,c≠b→w'.cell? ⟨c,p,none⟩=w.cell? ⟨c,p,none⟩:=λc p hc=>by unfold World.cell?;simp only [hoth c hc]
 have frzne:∀c p,c≠b→w'.frozen? ⟨c,p,none⟩=w.frozen? ⟨c,p,none⟩:=λc p hc=>by unfold World.frozen?;simp only [hoth c hc]
 have csz:∀c,cf w' c=cf w c:=λc=>by
  by_cases hc:c=b
  ·subst hc;exact hcs
  ·unfold cf;rw [hoth c hc]
 have ev:∀g0:Gh,g0.st=g.st→¬g0.fr b→Evo g0 w g0 w':=λg0 h1 h2=>
  ⟨hos.1,hos.2.1,hos.2.2,by omega,λ_ _ h=>h,λc p hs=>⟨hs,cellne c p (by rintro rfl;rw [h1] at hs;exact hst p hs)⟩,rfl,λc hc=>hoth c (by rintro rfl;exact h2 hc),λ_ _ _ h=>h,λ_ x h=>⟨x,h,.inl rfl,rfl,rfl⟩,(λ_ _ h h'=>nomatch (h.symm.trans h')),λc _=>csz c⟩
 refine ⟨?_,ev⟩
 have e0:Evo {g with fr:=λc=>g.fr c∧c≠b} w {g with fr:=λc=>g.fr c∧c≠b} w':=ev _ rfl (λh=>h.2 rfl)
 refine ⟨?_,r.inj,r.out,?_,λc h=>by rw [hsz];exact r.fr c h,?_,r.tout,r.tinj,r.tobj,?_,r.own0,λk x hx=>by rw [hsz];exact r.tlo k x hx⟩
 ·intro id o h hl
  obtain ⟨c,h1,h2,h3,h4⟩:=r.obj id o h hl
  have hcb:c≠b:=by rintro rfl;exact h3 hfr
  refine ⟨c,h1,?_,h3,h4⟩
  have h5:OR {g with fr:=λc=>g.fr c∧c≠b} w c o:=OR.gh (g:=g) (g':={g with fr:=λc=>g.fr c∧c≠b}) rfl rfl rfl h2
  exact OR.gh (g:={g with fr:=λc=>g.fr c∧c≠b}) (g':=g) rfl rfl rfl (OR.mono e0 (hoth c hcb) h5)
 ·intro c o h
  have hcb:c≠b:=by rintro rfl;exact hst o h
  rw [cellne c o hcb];exact r.st c o h
 ·intro k p h
  obtain ⟨x,h1,h2,h3,h4⟩:=r.tl k p h
  refine ⟨x,h1,h2,h3,λc o hi=> ?_⟩
  obtain ⟨h5,h6,h7,h8⟩:=h4 c o hi
  have hcb:c≠b:=by rintro rfl;exact h8 hfr
  exact ⟨by rw [cellne c o hcb];exact h5,by rw [frzne c o hcb];exact h6,h7,h8⟩
 ·intro k x hx h1 h2
  obtain ⟨⟨cur,h3,h3'⟩,h4,h5,h6,h7⟩:=r.own k x hx h1 h2
  have hcb:x.b≠b:=λe=>h7 (e▸hfr)
  exact ⟨⟨cur,by rw [hoth _ hcb];exact h3,h3'⟩,h4,h5,h6,h7⟩
structure Ji (P:Program) (o:Oper) (blk:Obj) (f:Nat→Value) (vo:VO) (mk:Nat→TV):Prop where
 run:∀(ρ:Operand→Value) w,(∀v,ρ (.const v)=v)→(execOp ρ o).run P w=.ok (.value (f w.heap.size)) (w.alloc blk)
 live:vo.live=true
 or:∀g w b,w.heap[b]?=some blk→OR g w b vo
 vr:∀g w id b,g.obj id=some b→b<w.heap.size→w.heap[b]?=some blk→VR g w (mk id) (f b)
theorem Jj {o:Oper}{T0:VT}(h:(iX P T0 o.op).isSome=true):∃blk f vo mk,Ji P o blk f vo mk∧∀T,iX P T o.op=some (mk T.objs.length,{T with objs:=T.objs++ [vo]}):=by
 obtain ⟨dst,op,ty,pos,af,gd⟩:=o
 simp only at h
 cases op<;>simp only [iX] at h<;>try (cases h)
 case alloc t=>
  unfold ni at h
  cases hi:P.info? t with
  |none=>rw [hi] at h;cases h
  |some i=>
   cases hz:i.zero with
   |none=>rw [hi] at h;simp only [hz] at h;cases h
   |some z=>
    rw [hi] at h
    simp only [hz,s8] at h
    by_cases hc:(z.cells.toList.map TV.val).all g7=true
    ·refine ⟨.cells z.cells t,λb=>.pointer (some ⟨b,0,none⟩),.cells (z.cells.toList.map .val),λid=>.ptr id 0,⟨λρ w _=> ?_,rfl,λg w b hb=> ?_,λg w id b hb _ _=>.ptr hb⟩,λT=> ?_⟩
     ·simp [execOp,Instr.alloc,zeroValue,typeInfo,hi,hz,newVar,newRow]
     ·exact ⟨z.cells.toList,t,by simpa using hb,VRs.vals g w _,lb hc (VRs.vals g w _)⟩
     ·simp only [iX,ni,hi,hz,s8,hc,if_true]
    ·rw [if_neg hc] at h;cases h
 case makeMap t r=>
  cases r with
  |some r=>cases h
  |none=>
   simp only [mu] at h
   cases hu:P.underlying t with
   |none=>rw [hu] at h;cases h
   |some d=>
    rw [hu] at h
    cases d<;>simp only at h<;>try (cases h)
    rename_i kt et
    cases hs:gn P kt with
    |none=>rw [hs] at h;cases h
    |some sh=>
     refine ⟨.map #[] 0,λb=>.map (some b),.map sh (λ_=>none) [] 0,λid=>.map id,⟨λρ w _=> ?_,rfl,λg w b hb=> ?_,λg w id b hb _ _=>.map hb⟩,λT=> ?_⟩
     ·simp [execOp,Instr.makeMap,newObj,Sem.run]
     ·exact ⟨#[],hb,by simp,by simpa using VRs.nil g _,by simp,by simp,by simp,λk _=>rfl⟩
     ·simp only [iX,mu,hu,hs]
 case makeSlice t l c=>
  cases l<;>try (cases h)
  rename_i l
  cases c<;>try (cases h)
  rename_i c
  replace h:(oK P T0 t (.val l) (.val c)).isSome=true:=h
  unfold oK at h
  split at h
  ·rename_i kl l' kc c' e h1 h2 hu
   injection h1 with h1;injection h2 with h2;subst h1 h2
   split at h
   ·rename_i i hi
    split at h
    ·rename_i z hz
     cases hb:(decide (0≤l')&&decide (l' ≤c')&&decide ((i.bytes:Int)*c' ≤281474976710656)&&decide (c' ≤140737488355328)&&z.cells.toList.all Value.oneCell' &&decide (0<z.cells.size)) with
     |false=>rw [hb] at h;cases h
     |true=>
      have hb':=hb
      simp only [and_eq_true,decide_eq_true_eq] at hb
      obtain ⟨⟨⟨⟨⟨h0,h1⟩,h2⟩,h3⟩,h4⟩,h5⟩:=hb
      have hlc:l'.toNat*i.size≤c'.toNat*i.size:=Nat.mul_le_mul_right _ (by omega)
      have hlen:((ix z.cells (l'.toNat*i.size)).map TV.val).length=l'.toNat*i.size:=by simp [ix]
      refine ⟨.cells (madeCells z.cells (c'.toNat*i.size)) e,λb=>.slice (some ⟨b,0,none⟩) l'.toNat c'.toNat,.row ((ix z.cells (l'.toNat*i.size)).map .val),λid=>.row i.size id 0 l'.toNat,⟨λρ w hρ=> ?_,rfl,λg w b hb=> ?_,λg w id b hb hlt hblk=> ?_⟩,λT=> ?_⟩
      ·have hrun:=run_make (P:=P) w t e i z hu hi hz kl kc l' c' h0 h1 h2 (by omega)
       simp [execOp,hρ,hrun]
      ·refine ⟨(madeCells z.cells (c'.toNat*i.size)).toList,e,by simpa using hb,?_,?_,?_⟩
       ·rw [hlen];simp [size_madeCells];exact hlc
       ·rw [hlen,pK hlc];exact VRs.vals g _ _
       ·intro u hu
        have hu:=List.mem_of_mem_take hu;rw [mem_toList_iff] at hu
        obtain ⟨j,hj,rfl⟩:=Array.getElem_of_mem hu
        have:(madeCells z.cells (c'.toNat*i.size))[j]=z.cells[j%z.cells.size]'(Nat.mod_lt _ h5):=by
         simp only [madeCells,Array.getElem_map,Array.getElem_range]
         exact getElem!_pos z.cells (j%z.cells.size) (Nat.mod_lt _ h5)
        rw [this]
        exact all_eq_true.1 h4 _ (mem_toList_iff.2 (Array.getElem_mem _))
      ·have hcz:cf w b=c'.toNat*i.size:=by rw [cp hblk,size_madeCells]
       have:=VR.row (g:=g) (w:=w) (size:=i.size) (id:=id) (off:=0) (n:=l'.toNat) (b:=b) (c:=c'.toNat) hb hlt (by omega) (by unfold maxLen;omega) (by rw [hcz,zero_add])
       rw [Nat.zero_mul] at this
       exact this
      ·simp only [iX,oK,hu,hi,hz,hb',cond_true,VT.newRow]
    ·cases h
   ·cases h
  ·cases h
end
section
variable {P:Program}{G:aV}{F:ki}{ops:Array Oper}{r:Option Nat}
abbrev On (V:Array Bool)(k:Nat):Prop:=V.getD k false=true
theorem cW {V:Array Bool}{i k:Nat}(h:On V k):On (V.setIfInBounds i true) k:=getD_set_true h
theorem lm {V:Array Bool}{i:Nat}(h:i<V.size):On (V.setIfInBounds i true) i:=by simp [On,h]
theorem bx {V:Array Bool}{i k:Nat}(h:i≠k)(hk:On (V.setIfInBounds i true) k):On V k:=by unfold On at*;rwa [getD_set_ne false h] at hk
theorem gA {V:Array Bool}{k:Nat}(h:V.getD k true=false):¬On V k:=by
 intro h'
 unfold On at h'
 rcases lt_or_ge k V.size with hk | hk
 ·simp [hk] at h h';rw [h] at h';cases h'
 ·simp [Array.getElem?_eq_none hk] at h'
theorem Jk {V:Array Bool}{k:Nat}(hk:k<V.size)(h:¬On V k):V.getD k true=false:=by
 unfold On at h
 simp [hk] at h ⊢;exact h
theorem cj:∀{l:List Nat} {i:Nat},inList l i=true ↔ i∈l
 |[],i=>by simp [inList]
 |a::l,i=>by
  simp only [inList,or_eq_true,mem_cons,cj (l:=l)]
  constructor
  ·rintro (h | h)
   ·exact .inl (eq_of_beq_eq_true h).symm
   ·exact .inr h
  ·rintro (h | h)
   ·subst h;exact .inl (beq_refl i)
   ·exact .inr h
theorem Aw (L:List Nat):∀(n:Nat) (σ:List TV) (s:Nat),(pN L n σ)[s]?=(σ[s]?).map λx=>bif inList L (n+s) then x else .dead
 |_,[],s=>by simp [pN]
 |n,x::σ,0=>by simp [pN]
 |n,x::σ,s+1=>by
  simp only [pN,List.getElem?_cons_succ]
  rw [Aw L (n+1) σ s,show n+1+s=n+(s+1) by omega]
theorem oO (o:Oper)(σ:List TV)(s:Nat):(only ops o σ)[s]?=(σ[s]?).map λx=>bif inList (o.looksAt ops) s then x else .dead:=by
 have:=Aw (o.looksAt ops) 0 σ s
 rw [zero_add] at this;exact this
theorem LR (o:Oper)(σ:List TV):(only ops o σ).length=σ.length:=by
 have key:∀(L:List Nat) (n:Nat) (σ:List TV),(pN L n σ).length=σ.length:=by
  intro L n σ
  induction σ generalizing n with
  |nil=>rfl
  |cons x σ ih=>simp [pN,ih]
 exact key _ _ _
theorem mD (σ:List TV)(d:Option Tmp)(y:TV)(s:Nat):(bR σ d y)[s]?=if d=some s∧s<σ.length then some y else σ[s]?:=by
 cases d with
 |none=>simp [bR]
 |some d=>
  simp only [bR,getElem?_set]
  by_cases h:d=s
  ·subst h
   by_cases hl:d<σ.length
   ·simp [hl]
   ·simp [hl,List.getElem?_eq_none (Nat.le_of_not_lt hl)]
  ·simp [h]
theorem wd (σ:List TV)(d:Option Tmp)(y:TV):(bR σ d y).length=σ.length:=by cases d<;>simp [bR]
theorem oz (a:Act)(d:Option Tmp)(v:Value)(s:Nat):(a.put d v).tmps.toList[s]?=if d=some s∧s<a.tmps.toList.length then some v else a.tmps.toList[s]?:=by
 cases d with
 |none=>simp [Act.put]
 |some d=>
  simp only [Act.put,Array.toList_setIfInBounds,getElem?_set]
  by_cases h:d=s
  ·subst h
   by_cases hl:d<a.tmps.size
   ·simp [hl]
   ·simp [hl,Array.getElem?_eq_none (Nat.le_of_not_lt hl)]
  ·simp [h]
theorem Fy (a:Act)(d:Option Tmp)(v:Value):(a.put d v).tmps.toList.length=a.tmps.toList.length:=by cases d<;>simp [Act.put]
theorem oP {o:Oper}{σ:List TV}{d:Option Tmp}{y:TV}(h:∀s,d=some s→inList (o.looksAt ops) s=false):only ops o (bR σ d y)=only ops o σ:=by
 apply ext_getElem?
 intro s
 rw [oO,oO,mD]
 by_cases hs:d=some s∧s<σ.length
 ·rw [if_pos hs,h s hs.1,getElem?_eq_getElem hs.2];rfl
 ·rw [if_neg hs]
theorem fa (h:tq ops=true){i:Nat}{o:Oper}{d:Tmp}(hi:ops[i]?=some o)(hd:o.dst=some d):
  inList (o.looksAt ops) d=false∧∀(j:Nat) oj,ops[j]?=some oj→j≠i→oj.dst≠some d∧(inList (oj.looksAt ops) d=true→∃e∈oj.after,binds .any e=true∧e.on=i):=by
 have hlt:=(Array.getElem?_eq_some_iff.1 hi).1
 have h1:=all_eq_true.1 h i (mem_range.2 hlt)
 simp only [hi,hd,and_eq_true,not_eq_true'] at h1
 refine ⟨h1.1,λj oj hj hne=> ?_⟩
 have h2:=all_eq_true.1 h1.2 j (mem_range.2 (Array.getElem?_eq_some_iff.1 hj).1)
 simp only [hj,or_eq_true,and_eq_true,not_eq_true'] at h2
 rcases h2 with h2 | ⟨h2,h3⟩
 ·exact absurd (eq_of_beq_eq_true h2) hne
 ·refine ⟨λe=> ?_,λhl=> ?_⟩
  ·rw [e] at h2;simp at h2
  ·rcases h3 with h3 | h3
   ·rw [hl] at h3;cases h3
   ·obtain ⟨e,he,h4⟩:=any_eq_true.1 h3
    simp only [and_eq_true] at h4
    exact ⟨e,mem_toList_iff.1 he,h4.1,eq_of_beq_eq_true h4.2⟩
theorem oQ (h:tq ops=true){X:Array Bool}{j:Nat}{oj:Oper}(hj:ops[j]?=some oj)(hdeps:∀e∈oj.after,binds .any e=true→On X e.on){s:Nat}(hs:inList (oj.looksAt ops) s=true){k:Nat}{ok:Oper}(hk:ops[k]?=some ok)(hd:ok.dst=some s):k≠j∧On X k:=by
 obtain ⟨h1,h2⟩:=fa h hk hd
 by_cases hkj:j=k
 ·subst hkj
  rw [hj] at hk;injection hk with hk;subst hk
  rw [hs] at h1;cases h1
 ·obtain ⟨e,he,hb,hon⟩:=(h2 j oj hj hkj).2 hs
  exact ⟨λh=>hkj h.symm,hon▸hdeps e he hb⟩
def RelV (ops:Array Oper)(V R:Array Bool)(g:Gh)(w:World)(σ:List TV)(tm:List Value):Prop:=
 tm.length=σ.length∧∀(s:Nat) x u,σ[s]?=some x→tm[s]?=some u→(∀(k:Nat) o,ops[k]?=some o→o.dst=some s→On V k∧On R k)→VR g w x u
theorem RelV.only {V R:Array Bool}{g:Gh}{w:World}{σ:List TV}{tm:List Value}(h:RelV ops V R g w σ tm){o:Oper}(hl:∀s,inList (o.looksAt ops) s=true→∀(k:Nat) ok,ops[k]?=some ok→ok.dst=some s→On V k∧On R k):VRs g w (only ops o σ) tm:=by
 refine ⟨by rw [LR];exact h.1,λs x u hx hu=> ?_⟩
 rw [oO] at hx
 cases hs:σ[s]? with
 |none=>rw [hs] at hx;cases hx
 |some z=>
  rw [hs] at hx
  simp only [map_some,Option.some.injEq] at hx
  cases hb:inList (o.looksAt ops) s with
  |true=>rw [hb] at hx;simp only [cond_true] at hx;subst hx;exact h.2 s z u hs hu (hl s hb)
  |false=>rw [hb] at hx;simp only [cond_false] at hx;subst hx;exact .dead u
def Owed (P:Program)(G:aV)(ops:Array Oper)(T0:VT)(pend:List Nat)(k:Nat)(o:Oper)(σ:List TV):Prop:=di o.op=true∧
 ((cP ops (only ops o σ) o=some false∧∀d x,o.dst=some d→σ[d]?=some x→x=.val undef)∨
 (cP ops (only ops o σ) o=some true∧∃y,(∀d x,o.dst=some d→σ[d]?=some x→x=y)∧(nm P G ⟨[],[]⟩ o (only ops o σ) y∨(k∈pend∧bu P o.op (bt G (only ops o σ))=none∧bs P T0 o.op (bt G (only ops o σ))=some y))))
def PB (prot:Nat→Option Nat)(b:Nat):Prop:=∃k,prot k=some b
def FlSt (P:Program)(G:aV)(ops:Array Oper)(σ:List TV)(R:Array Bool)(g:Gh)(w:World)(tm:List Value)(prot:Nat→Option Nat)(i:Nat)(jo:Option Nat):Prop:=
 ∃o d b,ops[i]?=some o∧o.dst=some d∧prot i=some b∧(match jo with
  |none=>∃blk f vo mk,Ji P o blk f vo mk∧(∀T,iX P T o.op=some (mk T.objs.length,{T with objs:=T.objs++ [vo]}))∧w.heap[b]?=some blk∧∀u,tm[d]?=some u→u=f b
  |some j=>∃oj t us inf,ops[j]?=some oj∧w.heap[b]?=some (.cells us.toArray t (0,0))∧(∀u,tm[d]?=some u→u=.pointer (some ⟨b,0,none⟩))∧o.op=.alloc t∧P.info? t=some inf∧us.length=inf.size∧
   (On R j→∃new,ow P o.op oj.op (bt G (only ops oj σ))=some new∧VRs g w new us∧∀u∈us,u.oneCell'=true))
structure VInv (P:Program) (G:aV) (ops:Array Oper) (flo:List (Nat × Option Nat)) (σ:List TV) (T T0:VT) (V R:Array Bool) (pend:List Nat) (g:Gh) (w:World) (tm:List Value) (prot:Nat→Option Nat):Prop where
 vs:V.size=ops.size
 rs:R.size=ops.size
 cv:Closed ops V
 cr:Closed ops R
 rv:∀k,On R k→¬On V k→k∈cO flo
 vf:∀k∈cO flo,On V k→On R k
 vb:∀i j,(i,some j)∈flo→(On V i ↔ On V j)
 rel:RelV ops V R g w σ tm
 own:∀(k:Nat) o,ops[k]?=some o→On V k→¬On R k→Owed P G ops T0 pend k o σ
 flt:∀i jo,(i,jo)∈flo→On R i→¬On V i→FlSt P G ops σ R g w tm prot i jo
 pr:∀k b,prot k=some b→(∃jo,(k,jo)∈flo)∧On R k∧¬On V k∧¬g.fr b∧(∀o,¬g.st b o)∧b<w.heap.size
 pinj:∀i j b,prot i=some b→prot j=some b→i=j
 rw:RW (gP g (PB prot)) T w
 t0:T.objs.take T0.objs.length=T0.objs
structure VStat (P:Program) (ops:Array Oper) (flo:List (Nat × Option Nat)):Prop where
 flow:gu ops=true
 once:tq ops=true
 dup:xi (cO flo)=true
 flo:I8 P ops flo (cO flo)=true
theorem rY:∀{l:List Nat},xi l=true→l.Nodup
 |[],_=>nodup_nil
 |a::l,h=>by
  simp only [xi,and_eq_true,not_eq_true'] at h
  exact nodup_cons.2 ⟨gw h.1,rY h.2⟩
theorem dc:∀{flo:List (Nat × Option Nat)} {k:Nat},k∈cO flo ↔ ∃i jo,(i,jo)∈flo∧(k=i∨jo=some k)
  |[],k=>by simp [cO]
  | (i,none)::l,k=>by
    simp only [cO,mem_cons,dc (flo:=l)]
    constructor
    · rintro (rfl | ⟨i',jo,h1,h2⟩)
      · exact ⟨k,none,.inl rfl,.inl rfl⟩
      · exact ⟨i',jo,.inr h1,h2⟩
    · rintro ⟨i',jo,h1 | h1,h2⟩
      · injection h1 with h1 h3;subst h1 h3
        rcases h2 with h2 | h2
        · exact .inl h2
        · cases h2
      · exact .inr ⟨i',jo,h1,h2⟩
  | (i,some j)::l,k=>by
    simp only [cO,mem_cons,dc (flo:=l)]
    constructor
    · rintro (rfl | rfl | ⟨i',jo,h1,h2⟩)
      · exact ⟨k,some j,.inl rfl,.inl rfl⟩
      · exact ⟨i,some k,.inl rfl,.inr rfl⟩
      · exact ⟨i',jo,.inr h1,h2⟩
    · rintro ⟨i',jo,h1 | h1,h2⟩
      · injection h1 with h1 h3;subst h1 h3
        rcases h2 with h2 | h2
        · exact .inl h2
        · injection h2 with h2;exact .inr (.inl h2.symm)
      · exact .inr (.inr ⟨i',jo,h1,h2⟩)
theorem gJ:∀{flo:List (Nat × Option Nat)},(cO flo).Nodup→∀{i jo i' jo' k},(i,jo)∈flo→(i',jo')∈flo→(k=i∨jo=some k)→(k=i' ∨jo'=some k)→i=i'∧jo=jo'
  |[],_,_,_,_,_,_,h,_,_,_=>by cases h
  | (a,b)::l,hn,i,jo,i',jo',k,h1,h2,k1,k2=>by
    have hl:(cO l).Nodup∧∀k,(k=a∨b=some k)→k∉cO l:=by
      cases b with
      |none=>
        have:=nodup_cons.1 hn
        refine ⟨this.2,λk hk=> ?_⟩
        rcases hk with rfl | hk
        · exact this.1
        · cases hk
      |some j=>
        have h3:=nodup_cons.1 hn
        have h4:=nodup_cons.1 h3.2
        refine ⟨h4.2,λk hk=> ?_⟩
        rcases hk with rfl | hk
        · exact λh=>h3.1 (mem_cons_of_mem _ h)
        · injection hk with hk;subst hk;exact h4.1
    rcases mem_cons.1 h1 with e1 | m1<;>rcases mem_cons.1 h2 with e2 | m2
    · injection e1 with e1 e1';injection e2 with e2 e2';subst e1 e1' e2 e2';exact ⟨rfl,rfl⟩
    · injection e1 with e1 e1';subst e1 e1'
      exact absurd ((dc (flo:=l)).2 ⟨i',jo',m2,k2⟩) (hl.2 k k1)
    · injection e2 with e2 e2';subst e2 e2'
      exact absurd ((dc (flo:=l)).2 ⟨i,jo,m1,k1⟩) (hl.2 k k2)
    · exact gJ hl.1 m1 m2 k1 k2
theorem VStat.at {flo:List (Nat × Option Nat)}(st:VStat P ops flo){i:Nat}{jo:Option Nat}(h:(i,jo)∈flo):∃o,ops[i]?=some o∧qO P o=true∧∀j,jo=some j→∃oj,ops[j]?=some oj∧qP P o oj=true∧(∃e∈oj.after,binds .any e=true∧e.on=i)∧∀e∈oj.after,binds .any e=true→e.on=i∨e.on∉cO flo∨boxStore flo e.on=true:=by
 have h1:=all_eq_true.1 st.flo (i,jo) h
 simp only at h1
 split at h1
 ·rename_i o ho
  simp only [and_eq_true] at h1
  refine ⟨o,ho,h1.1,λj hj=> ?_⟩
  subst hj
  have h2:=h1.2
  simp only at h2
  split at h2
  ·rename_i oj hoj
   simp only [and_eq_true] at h2
   obtain ⟨⟨h3,h4⟩,h5⟩:=h2
   obtain ⟨e,he,h6⟩:=any_eq_true.1 h4
   simp only [and_eq_true] at h6
   refine ⟨oj,hoj,h3,⟨e,mem_toList_iff.1 he,h6.1,eq_of_beq_eq_true h6.2⟩,λe he hb=> ?_⟩
   have h7:=all_eq_true.1 h5 e (mem_toList_iff.2 he)
   simp only [hb,Bool.not_true,Bool.false_or,or_eq_true,not_eq_true'] at h7
   rcases h7 with (h7 | h7) | h7
   ·exact .inl (eq_of_beq_eq_true h7)
   ·exact .inr (.inl (gw h7))
   ·exact .inr (.inr h7)
  ·cases h2
 ·cases h1
theorem CH {flo:List (Nat × Option Nat)}{k:Nat}(h:boxStore flo k=true):∃i,(i,some k)∈flo:=by
 obtain ⟨p,hp,h1⟩:=any_eq_true.1 h
 obtain ⟨i,jo⟩:=p
 cases jo with
 |none=>cases h1
 |some j=>
  have:=eq_of_beq_eq_true h1
  subst this
  exact ⟨i,hp⟩
theorem RelV.step {V R:Array Bool}{g g':Gh}{w w':World}{σ:List TV}{a:Act}(h:RelV ops V R g w σ a.tmps.toList)(e:Evo g w g' w'){j:Nat}{o:Oper}(ho:ops[j]?=some o){v:Value}
  (hx:∀d x,o.dst=some d→σ[d]?=some x→On V j→VR g' w' x v):RelV ops V (R.setIfInBounds j true) g' w' σ (a.put o.dst v).tmps.toList:=by
 refine ⟨by rw [Fy];exact h.1,λs x u hs hu hw=> ?_⟩
 rw [oz] at hu
 by_cases hd:o.dst=some s∧s<a.tmps.toList.length
 ·rw [if_pos hd] at hu
  injection hu with hu;subst hu
  exact hx s x hd.1 hs (hw j o ho hd.1).1
 ·rw [if_neg hd] at hu
  refine (h.2 s x u hs hu λk ok hk hdk=> ?_).mono e
  obtain ⟨h1,h2⟩:=hw k ok hk hdk
  refine ⟨h1,bx (λhjk=> ?_) h2⟩
  subst hjk
  rw [ho] at hk;injection hk with hk;subst hk
  exact hd ⟨hdk,(List.getElem?_eq_some_iff.1 hu).1⟩
theorem FlSt.step {σ:List TV}{R R':Array Bool}{g g':Gh}{w w':World}{a:Act}{prot prot':Nat→Option Nat}{i:Nat}{jo:Option Nat}(h:FlSt P G ops σ R g w a.tmps.toList prot i jo)(e:Evo g w g' w')(hh:∀b,prot i=some b→w'.heap[b]?=w.heap[b]?)(hp:prot' i=prot i)
  {d':Option Tmp} {v:Value} (hd:∀o d,ops[i]?=some o→o.dst=some d→d' ≠some d) (hr:∀j,jo=some j→On R' j→On R j):FlSt P G ops σ R' g' w' (a.put d' v).tmps.toList prot' i jo:=by
 obtain ⟨o,d,b,h1,h2,h3,h4⟩:=h
 have ht:∀u,(a.put d' v).tmps.toList[d]?=some u→a.tmps.toList[d]?=some u:=λu hu=>by
  rw [oz,if_neg λk=>hd o d h1 h2 k.1] at hu;exact hu
 refine ⟨o,d,b,h1,h2,hp.trans h3,?_⟩
 cases jo with
 |none=>
  obtain ⟨blk,f,vo,mk,k1,k2,k3,k4⟩:=h4
  exact ⟨blk,f,vo,mk,k1,k2,(hh b h3).trans k3,λu hu=>k4 u (ht u hu)⟩
 |some j=>
  obtain ⟨oj,t,us,inf,k1,k2,k3,k4,k5,k6,k7⟩:=h4
  refine ⟨oj,t,us,inf,k1,(hh b h3).trans k2,λu hu=>k3 u (ht u hu),k4,k5,k6,λhj=> ?_⟩
  obtain ⟨new,q1,q2,q3⟩:=k7 (hr j rfl hj)
  exact ⟨new,q1,q2.mono e,q3⟩
end
section
variable {P:Program}{G:aV}{F:ki}{ops:Array Oper}{r:Option Nat}{flo:List (Nat × Option Nat)}{σ:List TV}{T T0:VT}{V R:Array Bool}{pend:List Nat}{g:Gh}{w:World}{a:Act}{prot:Nat→Option Nat}
theorem vH {QQ:Exit→Act→World→Prop}{j:Nat}{o:Oper}(ho:ops[j]?=some o)(hw:wanted o (yielded ops a.tmps)=false){K:Act→World→Prop}(h:K (a.put o.dst undef) w):wpOpIn (dH r) 0 P ops QQ j K a w:=by
 unfold wpOpIn
 simp only [ho]
 rw [if_neg (by rw [hw];exact Bool.false_ne_true)]
 exact ⟨λ_ _=>trivial,h⟩
theorem rZ {QQ:Exit→Act→World→Prop}{j:Nat}{o:Oper}(hd:di o.op=true)(ho:ops[j]?=some o)(hw:wanted o (yielded ops a.tmps)=true){m:Next}{v:Value}{w':World}(hrun:(execOp a.eval o).run P w=.ok m w')(hv:iS m=some v)
  {K:Act→World→Prop} (h:∀v,iS m=some v→K (a.put o.dst v) w'):wpOpIn (dH r) 0 P ops QQ j K a w:=by
 have hne:∀c,o.op≠ .defer c:=λc hc=>by rw [hc] at hd;cases hd
 unfold wpOpIn
 simp only [ho]
 rw [if_pos hw]
 refine ⟨λ_ _=>trivial,?_⟩
 rw [Oper.semAt_eq _ _ _ hne,hrun]
 cases m<;>simp only [iS] at hv<;>try (cases hv)
 ·exact h _ rfl
 ·exact h _ rfl
theorem GOk.toP {B:Nat→Prop}(h:GOk G g w):GOk G (gP g B) w:=λn cs hn=>(h n cs hn).toP
theorem vI {o:Oper}(h:o.guard.isNone=true):wanted o (yielded ops a.tmps)=true:=by
 unfold wanted
 cases hg:o.guard with
 |none=>rfl
 |some x=>rw [hg] at h;cases h
theorem CI {n:Nat}{w':World}{g0:Gh}{B:Nat→Prop}(h:Same (gP g0 B) T w w'):Fix n g0 T w T w':=
 ⟨le_refl _,λ_ _ _=>rfl,λi o b _ ho hl hb=>h.obj i o b ho hl hb⟩
theorem VInv.base (inv:VInv P G ops flo σ T T0 V R pend g w a.tmps.toList prot):RW g T w:=inv.rw.lessFr rfl rfl rfl λ_ h=>.inl h
theorem Ax (st:VStat P ops flo)(inv:VInv P G ops flo σ T T0 V R pend g w a.tmps.toList prot)(hG:GOk G g w){QQ:Exit→Act→World→Prop}{K:Act→World→Prop}{j:Nat}(hj:j∈ready .any ops R)(hV:On V j)
  (next:∀g' w' (a':Act),VInv P G ops flo σ T T0 V (R.setIfInBounds j true) pend g' w' a'.tmps.toList prot→Evo g w g' w'→(∀n,Fix n g T w T w')→a'.defers=a.defers→K a' w'):wpOpIn (dH r) 0 P ops QQ j K a w:=by
 obtain ⟨hun,o,ho,hdep⟩:=mem_ready.1 hj
 have hnR:=gA hun
 have hjs:j<R.size:=by rw [inv.rs];exact (Array.getElem?_eq_some_iff.1 ho).1
 have hdepV:∀e∈o.after,binds .any e=true→On V e.on:=λe he hb=>inv.cv j o ho hV e he hb
 have hl:∀s,inList (o.looksAt ops) s=true→∀(k:Nat) ok,ops[k]?=some ok→ok.dst=some s→On V k∧On R k:=λs hs k ok hk hd=>
  ⟨(oQ st.once ho hdepV hs hk hd).2,(oQ st.once ho hdep hs hk hd).2⟩
 have hσ:=inv.rel.only hl
 obtain ⟨hnd,how⟩:=inv.own j o ho hV hnR
 have hjF:j∉cO flo:=λhm=>hnR (inv.vf j hm hV)
 have key:∀(g':Gh) (w':World) (v:Value),Evo g w g' w'→g'.fr=g.fr→RW (gP g' (PB prot)) T w'→(∀b,PB prot b→w'.heap[b]?=w.heap[b]?)→(∀b o,PB prot b→g'.st b o→g.st b o)→(∀d x,o.dst=some d→σ[d]?=some x→VR g' w' x v)→(∀n,Fix n g T w T w')→K (a.put o.dst v) w':=by
  intro g' w' v e hfr hrw hB hst hx hfix
  refine next g' w' _ ?_ e hfix (da _ _ _)
  refine ⟨inv.vs,by simpa using inv.rs,inv.cv,inv.cr.set hj,?_,λk hk hv=>cW (inv.vf k hk hv),inv.vb,inv.rel.step e ho λd x hd hs _=>hx d x hd hs,?_,?_,?_,inv.pinj,hrw,inv.t0⟩
  ·intro k hk hnv
   by_cases hjk:j=k
   ·subst hjk;exact absurd hV hnv
   ·exact inv.rv k (bx hjk hk) hnv
  ·intro k ok hk hv hnr
   exact inv.own k ok hk hv λh=>hnr (cW h)
  ·intro i jo hi hri hnvi
   have hne:j≠i:=λh=>hnvi (h▸hV)
   refine (inv.flt i jo hi (bx hne hri) hnvi).step e (λb hb=>hB b ⟨i,hb⟩) rfl (λo' d' h1 h2 h3=> ?_) (λjj hjj hr=> ?_)
   ·exact ((fa st.once h1 h2).2 j o ho hne).1 h3
   ·subst hjj
    refine bx (λh=> ?_) hr
    subst h
    exact hjF (dc.2 ⟨i,some j,hi,.inr rfl⟩)
  ·intro k b hk
   obtain ⟨h1,h2,h3,h4,h5,h6⟩:=inv.pr k b hk
   exact ⟨h1,cW h2,h3,by rw [hfr];exact h4,λo hs=>h5 o (hst b o ⟨k,hk⟩ hs),Nat.lt_of_lt_of_le h6 e.size⟩
 rcases how with ⟨hw,hu⟩ | ⟨hw,y,hy,hsem⟩
 ·refine vH ho (jx hw hσ) ?_
  exact key g w undef (Evo.refl _ _) rfl inv.rw (λ_ _=>rfl) (λ_ _ _ h=>h) (λd x hd hs=>by rw [hu d x hd hs];exact .val _) (λn=>Fix.refl _ _ _ _)
 ·have hρ:∀x,VR (gP g (PB prot)) w (bt G (only ops o σ) x) (a.eval x):=fC hG.toP (VRs.gh (g:=g) (g':=gP g (PB prot)) rfl rfl rfl hσ)
  have hs:∃Tp:VT,T.objs.take Tp.objs.length=Tp.objs∧nm P G Tp o (only ops o σ) y:=by
   rcases hsem with h | ⟨_,_,h⟩
   ·exact ⟨⟨[],[]⟩,CG T,h⟩
   ·exact ⟨T0,inv.t0,LQ h⟩
  obtain ⟨Tp,hTp,hsem⟩:=hs
  obtain ⟨m,v,g1,w1,h1,h2,h3,h4,h5,h6⟩:=hsem (gP g (PB prot)) w a.eval T hTp inv.rw hρ
  obtain ⟨g',rfl,hfr,e,hB,hst⟩:=h4.base
  refine rZ hnd ho (jx hw hσ) h1 h2 λv' hv'=> ?_
  rw [h2] at hv';injection hv' with hv';subst hv'
  exact key g' w1 v e hfr h5 hB hst (λd x hd hs=>by rw [hy d x hd hs];exact h3.ofP) (λn=>CI h6)
theorem pP {o oj:Oper}(hb:qP P o oj=true)(hl:qO P o=true):∃(d:Tmp) (t:TypeId) (inf:TypeInfo) (us:List Value) (x:Operand),o.dst=some d∧o.op=.alloc t∧oj.op=.store t (.tmp d) x∧oj.guard.isNone=true∧oj.dst=none∧x≠ .tmp d∧P.info? t=some inf∧us.length=inf.size∧
  ∀(ρ:Operand→Value) w,(execOp ρ o).run P w=.ok (.value (.pointer (some ⟨w.heap.size,0,none⟩))) (w.alloc (.cells us.toArray t)):=by
 unfold qP at hb
 split at hb
 ·rename_i d t t' d' x hd ho hoj
  simp only [and_eq_true] at hb
  obtain ⟨⟨⟨⟨⟨h1,h2⟩,h3⟩,h4⟩,h5⟩,h6⟩:=hb
  have h1:=eq_of_beq_eq_true h1
  have h2:=eq_of_beq_eq_true h2
  subst h1 h2
  split at h6
  ·rename_i inf hi
   split at h6
   ·rename_i z hz
    refine ⟨d,t,inf,z.cells.toList,x,hd,ho,hoj,h3,(by cases hq:oj.dst with | none=>rfl | some _=>rw [hq] at h4;cases h4),?_,hi,by simpa using eq_of_beq_eq_true h6,λρ w=> ?_⟩
    ·rintro rfl
     simp at h5
    ·obtain ⟨dst,op,ty,pos,af,gd⟩:=o
     simp only at ho;subst ho
     simp [execOp,Instr.alloc,zeroValue,typeInfo,hi,hz,newVar,newRow]
   ·cases h6
  ·cases h6
 ·cases hb
theorem Fb {o:Oper}(h:qO P o=true):(iX P ⟨[],[]⟩ o.op).isSome=true∧o.guard.isNone=true∧(∃d,o.dst=some d)∧di o.op=true:=by
 simp only [qO,and_eq_true] at h
 exact ⟨h.1.1.1,h.1.1.2,isSome_iff_exists.1 h.1.2,h.2⟩
theorem Hi (st:VStat P ops flo)(inv:VInv P G ops flo σ T T0 V R pend g w a.tmps.toList prot){QQ:Exit→Act→World→Prop}{K:Act→World→Prop}{i:Nat}{jo:Option Nat}(hf:(i,jo)∈flo)(hi:i∈ready .any ops R)(hV:¬On V i)
  (next:∀g' w' (a':Act) prot',VInv P G ops flo σ T T0 V (R.setIfInBounds i true) pend g' w' a'.tmps.toList prot'→Evo g w g' w'→(∀n,Fix n g T w T w')→a'.defers=a.defers→K a' w'):wpOpIn (dH r) 0 P ops QQ i K a w:=by
 obtain ⟨hun,o,ho,hdep⟩:=mem_ready.1 hi
 have hnR:=gA hun
 have hsz:i<R.size:=by rw [inv.rs];exact (Array.getElem?_eq_some_iff.1 ho).1
 obtain ⟨o',ho',hlate,hbox⟩:=st.at hf
 rw [ho] at ho';injection ho' with ho';subst ho'
 obtain ⟨hmk,hgd,⟨d,hd⟩,hnd⟩:=Fb hlate
 have hnd':=rY st.dup
 --what it lays
 have lay:∃blk v0,(execOp a.eval o).run P w=.ok (.value v0) (w.alloc blk)∧∀tm':List Value,(∀u,tm'[d]?=some u→u=v0)→∀(g':Gh) (R':Array Bool) (prot':Nat→Option Nat),prot' i=some w.heap.size→(∀j,jo=some j→¬On R' j)→FlSt P G ops σ R' g' (w.alloc blk) tm' prot' i jo:=by
  cases jo with
  |none=>
   obtain ⟨blk,f,vo,mk,h1,h2⟩:=Jj hmk
   refine ⟨blk,f w.heap.size,h1.run a.eval w λv=>rfl,λtm' htm g' R' prot' hp _=>⟨o,d,w.heap.size,ho,hd,hp,blk,f,vo,mk,h1,h2,heap_alloc_new w blk,htm⟩⟩
  |some j=>
   obtain ⟨oj,hoj,hb,_,_⟩:=hbox j rfl
   obtain ⟨d',t,inf,us,x,h1,h2,h3,h4,h5,h6,h7,h8,h9⟩:=pP hb hlate
   rw [hd] at h1;injection h1 with h1;subst h1
   exact ⟨_,_,h9 a.eval w,λtm' htm g' R' prot' hp hj=>⟨o,d,w.heap.size,ho,hd,hp,oj,t,us,inf,hoj,heap_alloc_new w _,htm,h2,h7,h8,λh=>absurd h (hj j rfl)⟩⟩
 obtain ⟨blk,v0,hrun,hlay⟩:=lay
 refine rZ hnd ho (vI hgd) hrun rfl λv' hv'=> ?_
 injection hv' with hv';subst hv'
 have hgr:Gr w (w.alloc blk):=(Gr.refl w).alloc _
 have e:=Evo.of_gr inv.base hgr
 have hsame:=Same.of_gr inv.rw hgr
 have hlt:w.heap.size<(w.alloc blk).heap.size:=(Array.getElem?_eq_some_iff.1 (heap_alloc_new w blk)).1
 have hnone:∀b,prot i≠some b:=λb hb=>hnR (inv.pr i b hb).2.1
 refine next g (w.alloc blk) _ (λk=>if k=i then some w.heap.size else prot k) ?_ e (λn=>CI hsame) (da _ _ _)
 have hpne:∀k,k≠i→(if k=i then some w.heap.size else prot k)=prot k:=λk hk=>if_neg hk
 refine ⟨inv.vs,by simpa using inv.rs,inv.cv,inv.cr.set hi,?_,λk hk hv=>cW (inv.vf k hk hv),inv.vb,inv.rel.step e ho λ_ _ _ _ h=>absurd h hV,?_,?_,?_,?_,?_,inv.t0⟩
 ·intro k hk hnv
  by_cases hik:i=k
  ·subst hik;exact dc.2 ⟨i,jo,hf,.inl rfl⟩
  ·exact inv.rv k (bx hik hk) hnv
 ·intro k ok hk hv hnr
  exact inv.own k ok hk hv λh=>hnr (cW h)
 ·intro i' jo' hf' hri hnv
  by_cases hii:i'=i
  ·subst hii
   obtain ⟨_,rfl⟩:=gJ hnd' hf hf' (k:=i') (.inl rfl) (.inl rfl)
   refine hlay _ (λu hu=> ?_) g _ _ (if_pos rfl) λj hj hon=> ?_
   ·rw [oz] at hu
    by_cases hc:o.dst=some d∧d<a.tmps.toList.length
    ·rw [if_pos hc] at hu;injection hu with hu;exact hu.symm
    ·rw [if_neg hc] at hu
     exact absurd ⟨hd,(List.getElem?_eq_some_iff.1 hu).1⟩ hc
   ·obtain ⟨oj,hoj,_,⟨e1,he1,hb1,hon1⟩,_⟩:=hbox j hj
    have hne:i' ≠j:=by
     rintro rfl
     rw [ho] at hoj;injection hoj with hoj;subst hoj
     have:=(fM st.flow ho).1 e1 he1 hb1
     omega
    have:=inv.cr j oj hoj (bx hne hon) e1 he1 hb1
    rw [hon1] at this
    exact hnR this
  ·refine (inv.flt i' jo' hf' (bx (λh=>hii h.symm) hri) hnv).step e (λb hb=>hgr.heap (inv.pr i' b hb).2.2.2.2.2) (hpne i' hii) (λo' d' h1 h2 h3=> ?_) λjj hjj hr=> ?_
   ·exact ((fa st.once h1 h2).2 i o ho (λh=>hii h.symm)).1 h3
   ·subst hjj
    refine bx (λh=> ?_) hr
    subst h
    exact hii (gJ hnd' hf' hf (k:=i) (.inr rfl) (.inl rfl)).1
 ·intro k b hk
  by_cases hki:k=i
  ·subst hki
   rw [if_pos rfl] at hk;injection hk with hk;subst hk
   have hfresh:=inv.rw.fresh (le_refl w.heap.size)
   exact ⟨⟨jo,hf⟩,lm hsz,hV,λh=>hfresh.fr (.inl h),hfresh.st,hlt⟩
  ·rw [if_neg hki] at hk
   obtain ⟨h1,h2,h3,h4,h5,h6⟩:=inv.pr k b hk
   exact ⟨h1,cW h2,h3,h4,h5,Nat.lt_trans h6 hlt⟩
 ·intro k k' b hk hk'
  by_cases hki:k=i<;>by_cases hki':k'=i
  ·omega
  ·subst hki
   rw [if_pos rfl] at hk;rw [if_neg hki'] at hk'
   injection hk with hk;subst hk
   have:=(inv.pr k' _ hk').2.2.2.2.2
   omega
  ·subst hki'
   rw [if_pos rfl] at hk';rw [if_neg hki] at hk
   injection hk' with hk';subst hk'
   have:=(inv.pr k _ hk).2.2.2.2.2
   omega
  ·rw [if_neg hki] at hk;rw [if_neg hki'] at hk'
   exact inv.pinj k k' b hk hk'
 ·have hfresh:=inv.rw.fresh (le_refl w.heap.size)
  refine RW.frs (inv.rw.gr hgr) rfl rfl rfl λb hb=> ?_
  rcases hb with hb | ⟨k,hk⟩
  ·exact ⟨Nat.lt_of_lt_of_le (inv.rw.fr b (.inl hb)) hgr.size,.inl (.inl hb)⟩
  ·replace hk:(if k=i then some w.heap.size else prot k)=some b:=hk
   by_cases hki:k=i
   ·rw [if_pos hki] at hk;injection hk with hk;subst hk
    exact ⟨hlt,.inr ⟨hfresh.obj,hfresh.tl⟩⟩
   ·rw [if_neg hki] at hk
    exact ⟨Nat.lt_trans (inv.pr k b hk).2.2.2.2.2 hlt,.inl (.inr ⟨k,hk⟩)⟩
end
section
variable {P:Program}{G:aV}{F:ki}{ops:Array Oper}{r:Option Nat}{flo:List (Nat × Option Nat)}{σ:List TV}{T T0:VT}{V R:Array Bool}{pend:List Nat}{g:Gh}{w:World}{a:Act}{prot:Nat→Option Nat}
theorem sa {flo0:List (Nat × Option Nat)}:∀{flo:List (Nat × Option Nat)},dM P G ops flo0 V σ flo=true→∀{i j},(i,some j)∈flo→¬On V i→uR ops flo0 (V.setIfInBounds i true) j=true→
    ∃o oj new d,ops[i]?=some o∧ops[j]?=some oj∧ow P o.op oj.op (bt G (only ops oj σ))=some new∧o.dst=some d∧d<σ.length
  |[],_,_,_,h,_,_=>by cases h
  | (i',none)::l,hb,i,j,h,hn,hd=>by
    simp only [dM] at hb
    rcases mem_cons.1 h with h | h
    · cases h
    · exact sa hb h hn hd
  | (i',some j')::l,hb,i,j,h,hn,hd=>by
    simp only [dM,and_eq_true] at hb
    rcases mem_cons.1 h with h | h
    · injection h with h1 h2;injection h2 with h2;subst h1 h2
      have h3:=hb.1
      have hn':V.getD i false=false:=by unfold On at hn;cases hq:V.getD i false<;>first | rfl | exact absurd hq hn
      rw [hn',hd] at h3
      simp only [Bool.not_true,Bool.or_self,Bool.false_or] at h3
      split at h3
      · rename_i o oj ho hoj
        simp only [and_eq_true] at h3
        obtain ⟨new,hnew⟩:=isSome_iff_exists.1 h3.1
        have h4:=h3.2
        split at h4
        · rename_i d hdd
          exact ⟨o,oj,new,d,ho,hoj,hnew,hdd,le_of_ble_eq_true h4⟩
        · cases h4
      · cases h3
    · exact sa hb.2 h hn hd
theorem CJ {o oj:Oper}{t t':TypeId}{ad x:Operand}{inf:TypeInfo}{ev:Operand→TV}{new:List TV}(h:ow P o.op oj.op ev=some new)(ho:o.op=.alloc t)(hoj:oj.op=.store t' ad x)(hi:P.info? t=some inf):b6 (ev x)=some new∧inf.size=new.length∧new.all g7=true:=by
 unfold ow at h
 rw [ho,hoj] at h
 simp only [hi] at h
 split at h
 ·rename_i i new' h1 h2
  injection h1 with h1;subst h1
  cases hb:(beq inf.size new'.length&&new'.all g7) with
  |false=>rw [hb] at h;cases h
  |true=>
   rw [hb] at h
   simp only [and_eq_true] at hb
   injection h with h;subst h
   exact ⟨h2,eq_of_beq_eq_true hb.1,hb.2⟩
 ·cases h
theorem tB (st:VStat P ops flo){k:Nat}{o:Oper}(h:boxStore flo k=true)(ho:ops[k]?=some o):o.dst=none:=by
 obtain ⟨i,hi⟩:=CH h
 obtain ⟨o2,ho2,hlate,hbox⟩:=st.at hi
 obtain ⟨oj,hoj,hib,_⟩:=hbox k rfl
 obtain ⟨_,_,_,_,_,_,_,_,_,h5,_⟩:=pP hib hlate
 rw [ho] at hoj;injection hoj with hoj;subst hoj
 exact h5
theorem Hj (st:VStat P ops flo)(inv:VInv P G ops flo σ T T0 V R pend g w a.tmps.toList prot)(hG:GOk G g w)(hbx:dM P G ops flo V σ flo=true){QQ:Exit→Act→World→Prop}{K:Act→World→Prop}{i j:Nat}(hf:(i,some j)∈flo)(hj:j∈ready .any ops R)(hV:¬On V j)
  (next:∀g' w' (a':Act),VInv P G ops flo σ T T0 V (R.setIfInBounds j true) pend g' w' a'.tmps.toList prot→Evo g w g' w'→(∀n,Fix n g T w T w')→a'.defers=a.defers→K a' w'):wpOpIn (dH r) 0 P ops QQ j K a w:=by
 obtain ⟨hun,oj,hoj,hdep⟩:=mem_ready.1 hj
 have hnR:=gA hun
 have hsz:j<R.size:=by rw [inv.rs];exact (Array.getElem?_eq_some_iff.1 hoj).1
 have hnd':=rY st.dup
 obtain ⟨o,ho,hlate,hbox⟩:=st.at hf
 obtain ⟨oj',hoj',hib,⟨e1,he1,hb1,hon1⟩,hdeps⟩:=hbox j rfl
 rw [hoj] at hoj';injection hoj' with hoj';subst hoj'
 obtain ⟨d,t,inf,us0,x,h1,h2,h3,h4,h5,h6,h7,_,_⟩:=pP hib hlate
 have hRi:On R i:=hon1▸hdep e1 he1 hb1
 have hVi:¬On V i:=λh=>hV ((inv.vb i j hf).1 h)
 have hdepV:∀e∈oj.after,binds .any e=true→e.on=i∨On V e.on∨boxStore flo e.on=true:=λe he hb=>by
  rcases hdeps e he hb with h | h | h
  ·exact .inl h
  ·refine .inr (.inl ?_)
   cases hq:V.getD e.on false with
   |true=>exact hq
   |false=>exact absurd (inv.rv e.on (hdep e he hb) (by unfold On;rw [hq];simp)) h
  ·exact .inr (.inr h)
 have hdi:uR ops flo (V.setIfInBounds i true) j=true:=by
  unfold uR
  rw [hoj]
  refine all_eq_true.2 λe he=> ?_
  cases hb:binds .any e with
  |false=>simp
  |true=>
   simp only [Bool.not_true,Bool.false_or]
   rw [or_eq_true]
   rcases hdepV e (mem_toList_iff.1 he) hb with h | h | h
   ·left;rw [h];exact lm (by rw [inv.vs];exact (Array.getElem?_eq_some_iff.1 ho).1)
   ·left;exact cW h
   ·right;exact h
 obtain ⟨o',oj',new,d',k1,k2,hnew,k3,hdlt⟩:=sa hbx hf hVi hdi
 rw [ho] at k1;injection k1 with k1;subst k1
 rw [hoj] at k2;injection k2 with k2;subst k2
 rw [h1] at k3;injection k3 with k3;subst k3
 obtain ⟨hcells,hlen,hone⟩:=CJ hnew h2 h3 h7
 obtain ⟨o',d',b,q1,q2,hp,oj',t',us,inf',q3,hheap,hptr,q4,q5,hus,_⟩:=inv.flt i (some j) hf hRi hVi
 rw [ho] at q1;injection q1 with q1;subst q1
 rw [h1] at q2;injection q2 with q2;subst q2
 rw [hoj] at q3;injection q3 with q3;subst q3
 rw [h2] at q4;injection q4 with q4;subst q4
 rw [h7] at q5;injection q5 with q5;subst q5
 --the value
 have hlook:∀e,x=.tmp e→inList (oj.looksAt ops) e=true:=λe he=>by
  rw [cj]
  unfold Oper.looksAt
  rw [h3]
  simp [Op.operands,he]
 have hx:VR g w (bt G (only ops oj σ) x) (a.eval x):=by
  cases x with
  |tmp e=>
   have hl:=hlook e rfl
   show VR g w ((only ops oj σ).getD e .dead) (a.eval (.tmp e))
   cases hs:σ[e]? with
   |none=>
    have:(only ops oj σ)[e]?=none:=by rw [oO,hs];rfl
    rw [List.getD_eq_getElem?_getD,this]
    exact .dead _
   |some z=>
    have hz:(only ops oj σ)[e]?=some z:=by rw [oO,hs,hl];rfl
    rw [List.getD_eq_getElem?_getD,hz]
    have hel:e<a.tmps.toList.length:=by rw [inv.rel.1];exact (List.getElem?_eq_some_iff.1 hs).1
    have hu:a.tmps.toList[e]?=some (a.eval (.tmp e)):=by
     rw [getElem?_eq_getElem hel]
     have:e<a.tmps.size:=by simpa using hel
     simp [eval,this]
    refine inv.rel.2 e z _ hs hu λk ok hk hd=> ?_
    obtain ⟨hkj,hRk⟩:=oQ st.once hoj hdep hl hk hd
    refine ⟨?_,hRk⟩
    obtain ⟨h8,h9⟩:=fa st.once hk hd
    obtain ⟨e2,he2,hb2,hon2⟩:=(h9 j oj hoj (λh=>hkj h.symm)).2 hl
    rcases hdepV e2 he2 hb2 with h | h | h
    rotate_left 2
    ·exfalso
     rw [hon2] at h
     rw [tB st h hk] at hd;cases hd
    ·exfalso
     rw [hon2] at h;subst h
     rw [ho] at hk;injection hk with hk;subst hk
     rw [h1] at hd;injection hd with hd;subst hd
     exact h6 rfl
    ·rw [hon2] at h;exact h
  |const v=>exact .val _
  |global n=>
   have:=fC (a:=a) (σ:= []) (G:=G) (g:=g) (w:=w)
   show VR g w (bt G [] (.global n)) (a.eval (.global n))
   simp only [bt]
   split
   ·rename_i cs hn;exact hG n cs hn
   ·exact .val _
  |func f=>exact .fn (us:= []) (vs:= []) rfl (λj x u h=>by simp at h) rfl (λj x u h=>by simp at h)
 have ha:a.eval (.tmp d)=.pointer (some ⟨b,0,none⟩):=by
  have hel:d<a.tmps.toList.length:=by rw [inv.rel.1];exact hdlt
  have hu:a.tmps.toList[d]?=some (a.eval (.tmp d)):=by
   rw [getElem?_eq_getElem hel]
   have:d<a.tmps.size:=by simpa using hel
   simp [eval,this]
  exact hptr _ hu
 generalize hux:a.eval x=u at hx
 have k:=lD hcells hx
 have hoc:=lb hone k
 have hl:u.cells.toList.length=new.length:=k.1
 have hrun0:=run_storeCells_at (P:=P) b 0 t u.cells.toList 0 us.toArray w hheap (by simp at hl ⊢;omega) hoc
 simp only [Nat.add_zero,hl] at hrun0
 have hnd:di oj.op=true:=by rw [h3];rfl
 have hcsz:cf (w.setRow b (us.take 0++u.cells.toList++us.drop (0+new.length)).toArray) b=cf w b:=by
  rw [cp (setRow_heap w b us.toArray _ t (0,0) hheap),cp hheap]
  simp at hl ⊢;omega
 have hrow:(us.take 0++u.cells.toList++us.drop (0+new.length))=u.cells.toList:=by
  rw [List.take_zero,List.nil_append,zero_add,List.drop_eq_nil_of_le (by omega),List.append_nil]
 have hrun:(execOp a.eval oj).run P w=.ok .skip (w.setRow b (us.take 0++u.cells.toList++us.drop (0+new.length)).toArray):=by
  have hs:u.cells.size=inf.size:=by rw [hlen,←hl];simp
  have:(storeAt t (a.eval (.tmp d)) u).run P w=.ok () (w.setRow b (us.take 0++u.cells.toList++us.drop (0+new.length)).toArray):=by
   rw [ha]
   simp only [storeAt,Instr.sureAddr,storeVar,Sem.run_bind,Sem.run_pure,andThen_ok,bO h7,hs]
   simpa using hrun0
  obtain ⟨dst,op,ty,pos,af,gd⟩:=oj
  simp only at h3;subst h3
  simp [execOp,hux,this]
 refine rZ (v:=undef) hnd hoj (vI h4) hrun rfl λv' hv'=> ?_
 injection hv' with hv';subst hv'
 rw [hrow] at hcsz ⊢
 obtain ⟨p1,p2,p3,p4,p5,p6⟩:=inv.pr i b hp
 have hoth:∀c,c≠b→(w.setRow b u.cells.toList.toArray).heap[c]?=w.heap[c]?:=λc hc=>setRow_other w b c _ hc
 obtain ⟨hrw',hev⟩:=inv.rw.off (b:=b) (w':=w.setRow b u.cells.toList.toArray) (.inr ⟨i,hp⟩) p5 ⟨rfl,rfl,rfl⟩ (by simp) hoth hcsz
 have e:=hev g rfl p4
 have hfix:∀n,Fix n g T w T (w.setRow b u.cells.toList.toArray):=λn=>⟨le_refl _,λ_ _ _=>rfl,λid o' b' _ ho' hl' hb'=>hoth b' λh=>by
  subst h
  obtain ⟨b2,y1,_,y3,_⟩:=inv.rw.obj id o' ho' hl'
  have y1':g.obj id=some b2:=y1
  rw [hb'] at y1';injection y1' with y1';subst y1'
  exact y3 (.inr ⟨i,hp⟩)⟩
 have hdst:oj.dst=none:=h5
 refine next g _ (a.put oj.dst undef) ?_ e hfix (da _ _ _)
 refine ⟨inv.vs,by simpa using inv.rs,inv.cv,inv.cr.set hj,?_,λk hk hv=>cW (inv.vf k hk hv),inv.vb,inv.rel.step e hoj λd x hd _ _=>(by rw [hdst] at hd;cases hd),?_,?_,?_,inv.pinj,hrw',inv.t0⟩
 ·intro k' hk hnv
  by_cases hjk:j=k'
  ·subst hjk;exact dc.2 ⟨i,some j,hf,.inr rfl⟩
  ·exact inv.rv k' (bx hjk hk) hnv
 ·intro k' ok hk hv hnr
  exact inv.own k' ok hk hv λh=>hnr (cW h)
 ·intro i' jo' hf' hri hnv
  by_cases hii:i'=i
  ·subst hii
   obtain ⟨_,rfl⟩:=gJ hnd' hf hf' (k:=i') (.inl rfl) (.inl rfl)
   refine ⟨o,d,b,ho,h1,hp,oj,t,u.cells.toList,inf,hoj,setRow_heap w b us.toArray _ t (0,0) hheap,λu' hu'=> ?_,h2,h7,by omega,λ_=>⟨new,hnew,k.mono e,hoc⟩⟩
   rw [oz,if_neg (by rw [hdst];rintro ⟨h,_⟩;cases h)] at hu'
   exact hptr u' hu'
  ·have hri':On R i':=bx (λh=>by
    subst h
    exact hii (gJ hnd' hf' hf (k:=j) (.inl rfl) (.inr rfl)).1) hri
   refine (inv.flt i' jo' hf' hri' hnv).step e (λb' hb'=>hoth b' λh=>by subst h;exact hii (inv.pinj i' i b' hb' hp)) rfl (λo' d' _ _ h3'=>by rw [hdst] at h3';cases h3') λjj hjj hr=> ?_
   subst hjj
   refine bx (λh=> ?_) hr
   subst h
   exact hii (gJ hnd' hf' hf (k:=j) (.inr rfl) (.inr rfl)).1
 ·intro k' b' hk
  obtain ⟨y1,y2,y3,y4,y5,y6⟩:=inv.pr k' b' hk
  exact ⟨y1,cW y2,y3,y4,y5,Nat.lt_of_lt_of_le y6 e.size⟩
end
section
variable {P:Program}{G:aV}{F:ki}{ops:Array Oper}{r:Option Nat}{flo:List (Nat × Option Nat)}{σ:List TV}{T T0:VT}{V R:Array Bool}{pend:List Nat}{g:Gh}{w:World}{a:Act}{prot:Nat→Option Nat}
theorem Owed.put (st:VStat P ops flo)(hcv:Closed ops V){i k:Nat}{o ok:Oper}(ho:ops[i]?=some o)(hVi:¬On V i)(hk:ops[k]?=some ok)(hVk:On V k){y:TV}{pend':List Nat}(hp:∀k∈pend,k∈pend')(h:Owed P G ops T0 pend k ok σ):Owed P G ops T0 pend' k ok (bR σ o.dst y):=by
 have hki:k≠i:=λe=>hVi (e▸hVk)
 have hon:only ops ok (bR σ o.dst y)=only ops ok σ:=oP λs hs=>by
  cases hl:inList (ok.looksAt ops) s with
  |false=>rfl
  |true=>
   obtain ⟨e,he,hb,hon⟩:=((fa st.once ho hs).2 k ok hk hki).2 hl
   exact absurd (hon▸hcv k ok hk hVk e he hb) hVi
 have hat:∀d x,ok.dst=some d→(bR σ o.dst y)[d]?=some x→σ[d]?=some x:=λd x hd hx=>by
  rw [mD,if_neg] at hx
  ·exact hx
  ·rintro ⟨h1,_⟩
   exact ((fa st.once ho h1).2 k ok hk hki).1 hd
 obtain ⟨h0,h1⟩:=h
 refine ⟨h0,?_⟩
 rw [hon]
 rcases h1 with ⟨h1,h2⟩ | ⟨h1,z,h2,h3⟩
 ·exact .inl ⟨h1,λd x hd hx=>h2 d x hd (hat d x hd hx)⟩
 ·refine .inr ⟨h1,z,λd x hd hx=>h2 d x hd (hat d x hd hx),?_⟩
  rcases h3 with h3 | ⟨h3,h4⟩
  ·exact .inl h3
  ·exact .inr ⟨hp k h3,h4⟩
theorem FlSt.sig {R:Array Bool}{tm:List Value}{i:Nat}{jo:Option Nat}{σ':List TV}(h:FlSt P G ops σ R g w tm prot i jo)(hs:∀(j:Nat) oj,jo=some j→ops[j]?=some oj→On R j→only ops oj σ'=only ops oj σ):FlSt P G ops σ' R g w tm prot i jo:=by
 obtain ⟨o,d,b,h1,h2,h3,h4⟩:=h
 refine ⟨o,d,b,h1,h2,h3,?_⟩
 cases jo with
 |none=>exact h4
 |some j=>
  obtain ⟨oj,t,us,inf,k1,k2,k3,k4,k5,k6,k7⟩:=h4
  refine ⟨oj,t,us,inf,k1,k2,k3,k4,k5,k6,λhj=> ?_⟩
  rw [hs j oj rfl k1 hj];exact k7 hj
theorem LS (st:VStat P ops flo)(inv:VInv P G ops flo σ T T0 V R pend g w a.tmps.toList prot){i:Nat}{o:Oper}(ho:ops[i]?=some o)(hi:i∈ready .any ops V)(hF:i∉cO flo)(hnd:di o.op=true){y:TV}{pend':List Nat}(hp:∀k∈pend,k∈pend')
  (how:(cP ops (only ops o σ) o=some false∧y=.val undef)∨(cP ops (only ops o σ) o=some true∧(nm P G ⟨[],[]⟩ o (only ops o σ) y∨(i∈pend'∧bu P o.op (bt G (only ops o σ))=none∧bs P T0 o.op (bt G (only ops o σ))=some y)))):
  VInv P G ops flo (bR σ o.dst y) T T0 (V.setIfInBounds i true) R pend' g w a.tmps.toList prot:=by
 obtain ⟨hun,o',ho',hdep⟩:=mem_ready.1 hi
 rw [ho] at ho';injection ho' with ho';subst ho'
 have hVi:=gA hun
 have hRi:¬On R i:=λh=>hF (inv.rv i h hVi)
 have hlt:=(Array.getElem?_eq_some_iff.1 ho).1
 refine ⟨by simpa using inv.vs,inv.rs,inv.cv.set hi,inv.cr,λk hk hnv=>inv.rv k hk λh=>hnv (cW h),λk hk hv=> ?_,λi' j' h=> ?_,?_,λk ok hk hv hnr=> ?_,λi' jo hf hri hnv=> ?_,λk b hk=> ?_,inv.pinj,inv.rw,inv.t0⟩
 ·exact inv.vf k hk (bx (λh=>hF (by rw [h];exact hk)) hv)
 ·have h1:i≠i':=λe=>hF (dc.2 ⟨i',some j',h,.inl e⟩)
  have h2:i≠j':=λe=>hF (dc.2 ⟨i',some j',h,.inr (by rw [e])⟩)
  exact ⟨λh3=>cW ((inv.vb i' j' h).1 (bx h1 h3)),λh3=>cW ((inv.vb i' j' h).2 (bx h2 h3))⟩
 ·refine ⟨by rw [wd];exact inv.rel.1,λs x u hs hu hw=> ?_⟩
  have hne:o.dst≠some s:=λhd=>hRi (hw i o ho hd).2
  rw [mD,if_neg λh=>hne h.1] at hs
  refine inv.rel.2 s x u hs hu λk ok hk hd=> ?_
  obtain ⟨h1,h2⟩:=hw k ok hk hd
  refine ⟨bx (λh=> ?_) h1,h2⟩
  subst h
  rw [ho] at hk;injection hk with hk;subst hk
  exact hne hd
 ·by_cases hki:i=k
  ·subst hki
   rw [ho] at hk;injection hk with hk;subst hk
   have hself:∀s,o.dst=some s→inList (o.looksAt ops) s=false:=λs hs=>(fa st.once ho hs).1
   have hat:∀d x,o.dst=some d→(bR σ o.dst y)[d]?=some x→x=y:=λd x hd hx=>by
    rw [mD] at hx
    by_cases hc:o.dst=some d∧d<σ.length
    ·rw [if_pos hc] at hx;injection hx with hx;exact hx.symm
    ·rw [if_neg hc] at hx
     exact absurd ⟨hd,(List.getElem?_eq_some_iff.1 hx).1⟩ hc
   refine ⟨hnd,?_⟩
   rw [oP hself]
   rcases how with ⟨h1,h2⟩ | ⟨h1,h2⟩
   ·exact .inl ⟨h1,λd x hd hx=>(hat d x hd hx).trans h2⟩
   ·exact .inr ⟨h1,y,hat,h2⟩
  ·have hv':=bx hki hv
   exact (inv.own k ok hk hv' hnr).put st inv.cv ho hVi hk hv' hp
 ·refine (inv.flt i' jo hf hri λh=>hnv (cW h)).sig λj oj hj hoj hrj=>oP λs hs=> ?_
  subst hj
  cases hl:inList (oj.looksAt ops) s with
  |false=>rfl
  |true=>
   have hji:j≠i:=λe=>hRi (e▸hrj)
   obtain ⟨e,he,hb,hon⟩:=((fa st.once ho hs).2 j oj hoj hji).2 hl
   exact absurd (hon▸inv.cr j oj hoj hrj e he hb) hRi
 ·obtain ⟨h1,h2,h3,h4⟩:=inv.pr k b hk
  refine ⟨h1,h2,λh=> ?_,h4⟩
  by_cases hik:i=k
  ·subst hik;exact hRi h2
  ·exact h3 (bx hik h)
theorem Fz {n:Nat}{o:VO}:Fix n g T w {T with objs:=T.objs++ [o]} w:=
 ⟨by simp,λi _ hl=>by rw [List.getElem?_append_left hl],λ_ _ _ _ _ _ _=>rfl⟩
theorem xu (st:VStat P ops flo)(inv:VInv P G ops flo σ T T0 V R pend g w a.tmps.toList prot){i:Nat}{jo:Option Nat}{o:Oper}(ho:ops[i]?=some o)(hf:(i,jo)∈flo)(hi:i∈ready .any ops V)(hRi:On R i)(hRj:∀j,jo=some j→On R j){V':Array Bool}
  (hV':∀k,On V' k ↔ (k=i∨jo=some k)∨On V k) (hvs:V'.size=ops.size) (hcv:Closed ops V') {b:Nat} (hb:prot i=some b) {vo:VO} {y:TV} (hl:vo.live=true) (hor:OR g w b vo) (hy:∀d u,o.dst=some d→a.tmps.toList[d]?=some u→∀g':Gh,g'.obj T.objs.length=some b→VR g' w y u):
  ∃g' prot',VInv P G ops flo (bR σ o.dst y) {T with objs:=T.objs++ [vo]} T0 V' R pend g' w a.tmps.toList prot'∧Evo g w g' w:=by
 obtain ⟨hun,o',ho',hdep⟩:=mem_ready.1 hi
 rw [ho] at ho';injection ho' with ho';subst ho'
 have hVi:=gA hun
 have hnd':=rY st.dup
 have hiF:i∈cO flo:=dc.2 ⟨i,jo,hf,.inl rfl⟩
 obtain ⟨p1,p2,p3,p4,p5,p6⟩:=inv.pr i b hb
 have hout:g.obj T.objs.length=none:=inv.rw.out _ (le_refl _)
 have e:Evo g w (g.addObj T.objs.length b) w:=Evo.addObj hout
 have hpne:∀k,k≠i→(if k=i then none else prot k)=prot k:=λk hk=>if_neg hk
 have hPB:∀c,PB (λk=>if k=i then none else prot k) c→PB prot c∧c≠b:=by
  rintro c ⟨k,hk⟩
  replace hk:(if k=i then none else prot k)=some c:=hk
  by_cases hki:k=i
  ·rw [if_pos hki] at hk;cases hk
  ·rw [if_neg hki] at hk
   exact ⟨⟨k,hk⟩,λh=>hki (inv.pinj k i b (h▸hk) hb)⟩
 have r1:RW (gP g (PB λk=>if k=i then none else prot k)) T w:=inv.rw.lessFr rfl rfl rfl λc hc=>by
  rcases hc with hc | hc
  ·exact .inl hc
  ·exact .inr (hPB c hc).1
 have hfresh:wY (gP g (PB λk=>if k=i then none else prot k)) T b:=by
  refine ⟨λhc=> ?_,p5,λid o hid hlo hob=> ?_,λk x hx hh=> ?_⟩
  ·rcases hc with hc | hc
   ·exact p4 hc
   ·exact (hPB b hc).2 rfl
  ·obtain ⟨c,h1,_,h3,_⟩:=inv.rw.obj id o hid hlo
   have h1':g.obj id=some c:=h1
   have hob':g.obj id=some b:=hob
   rw [h1'] at hob';injection hob' with hob';subst hob'
   exact h3 (.inr ⟨i,hb⟩)
  ·rcases hh with ⟨o2,hin⟩ | ⟨h1,h2,h3⟩
   ·rcases lt_or_ge k T.tails.length with hk | hk
    ·obtain ⟨x',y1,_,_,y4⟩:=inv.rw.tl k T.tails[k] (getElem?_eq_getElem hk)
     have y1':g.tail k=some x':=y1
     have hx':g.tail k=some x:=hx
     rw [hx'] at y1';injection y1' with y1';subst y1'
     exact (y4 b o2 hin).2.2.2 (.inr ⟨i,hb⟩)
    ·have:=r1.tout k hk
     rw [hx] at this;cases this
   ·have:=(inv.rw.own k x hx h1 h2).2.2.2.2
    rw [h3] at this
    exact this (.inr ⟨i,hb⟩)
 have r2:=r1.addObj hfresh hl (OR.gh (g:=g) (g':=gP g (PB λk=>if k=i then none else prot k)) rfl rfl rfl hor)
 have hV'j:∀k,On V' k→¬On V k→k=i∨jo=some k:=λk h1 h2=>by
  rcases (hV' k).1 h1 with h | h
  ·exact h
  ·exact absurd h h2
 refine ⟨g.addObj T.objs.length b,λk=>if k=i then none else prot k,?_,e⟩
 refine ⟨hvs,inv.rs,hcv,inv.cr,λk hk hnv=>inv.rv k hk λh=>hnv ((hV' k).2 (.inr h)),λk hk hv=> ?_,λi' j' h=> ?_,?_,λk ok hk hv hnr=> ?_,λi' jo' hf' hri hnv=> ?_,λk c hk=> ?_,λk k' c hk hk'=> ?_,r2,?_⟩
 ·rcases (hV' k).1 hv with (h | h) | h
  ·subst h;exact hRi
  ·exact hRj k h
  ·exact inv.vf k hk h
 ·constructor
  ·intro h1
   rcases (hV' i').1 h1 with h2 | h2
   ·obtain ⟨rfl,rfl⟩:=gJ hnd' hf h h2 (.inl rfl)
    exact (hV' j').2 (.inl (.inr rfl))
   ·exact (hV' j').2 (.inr ((inv.vb i' j' h).1 h2))
  ·intro h1
   rcases (hV' j').1 h1 with h2 | h2
   ·obtain ⟨rfl,rfl⟩:=gJ hnd' hf h h2 (.inr rfl)
    exact (hV' i).2 (.inl (.inl rfl))
   ·exact (hV' i').2 (.inr ((inv.vb i' j' h).2 h2))
 ·refine ⟨by rw [wd];exact inv.rel.1,λs x u hs hu hw=> ?_⟩
  rw [mD] at hs
  by_cases hc:o.dst=some s∧s<σ.length
  ·rw [if_pos hc] at hs;injection hs with hs;subst hs
   exact hy s u hc.1 hu _ (by simp [Gh.addObj])
  ·rw [if_neg hc] at hs
   have hne:o.dst≠some s:=λhd=>hc ⟨hd,(List.getElem?_eq_some_iff.1 hs).1⟩
   refine (inv.rel.2 s x u hs hu λk ok hk hd=> ?_).mono e
   obtain ⟨h1,h2⟩:=hw k ok hk hd
   refine ⟨?_,h2⟩
   rcases (hV' k).1 h1 with (h | h) | h
   ·subst h
    rw [ho] at hk;injection hk with hk;subst hk
    exact absurd hd hne
   ·exfalso
    --a box's store writes no slot
    obtain ⟨o2,ho2,hlate,hbox⟩:=st.at hf
    obtain ⟨oj,hoj,hib,_⟩:=hbox k h
    obtain ⟨_,_,_,_,_,_,_,_,_,h5,_⟩:=pP hib hlate
    rw [hk] at hoj;injection hoj with hoj;subst hoj
    rw [h5] at hd;cases hd
   ·exact h
 ·rcases (hV' k).1 hv with (h | h) | h
  ·subst h;exact absurd hRi hnr
  ·exact absurd (hRj k h) hnr
  ·exact (inv.own k ok hk h hnr).put st inv.cv ho hVi hk h λ_ h=>h
 ·have hnv0:¬On V i':=λh=>hnv ((hV' i').2 (.inr h))
  have hii:i' ≠i:=λh=>hnv ((hV' i').2 (.inl (.inl h)))
  have h0:=(inv.flt i' jo' hf' hri hnv0).sig (σ':=bR σ o.dst y) λj oj hj hoj hrj=>oP λs hs=>by
   subst hj
   cases hlk:inList (oj.looksAt ops) s with
   |false=>rfl
   |true=>
    exfalso
    have hji:j≠i:=λe=>hii (gJ hnd' hf' hf (k:=i) (.inr (by rw [e])) (.inl rfl)).1
    obtain ⟨e1,he,hb1,hon⟩:=((fa st.once ho hs).2 j oj hoj hji).2 hlk
    obtain ⟨o2,ho2,_,hbox⟩:=st.at hf'
    obtain ⟨oj',hoj',_,_,hdeps⟩:=hbox j rfl
    rw [hoj] at hoj';injection hoj' with hoj';subst hoj'
    rcases hdeps e1 he hb1 with h | h | h
    ·exact hii (h.symm.trans hon)
    ·exact h (hon▸hiF)
    ·rw [hon] at h
     rw [tB st h ho] at hs;cases hs
  have h1:=h0.step (g':=g.addObj T.objs.length b) (w':=w) (a:=a) (R':=R) (prot':=λk=>if k=i then none else prot k) e (λ_ _=>rfl) (hpne i' hii) (d':=none) (v:=undef) (λ_ _ _ _ h=>by cases h) (λ_ _ h=>h)
  simpa [Act.put] using h1
 ·replace hk:(if k=i then none else prot k)=some c:=hk
  by_cases hki:k=i
  ·rw [if_pos hki] at hk;cases hk
  ·rw [if_neg hki] at hk
   obtain ⟨h1,h2,h3,h4,h5,h6⟩:=inv.pr k c hk
   refine ⟨h1,h2,λh=> ?_,h4,h5,h6⟩
   rcases (hV' k).1 h with (h | h) | h
   ·exact hki h
   ·obtain ⟨jo',hjo'⟩:=h1
    exact hki (gJ hnd' hjo' hf (k:=k) (.inl rfl) (.inr h)).1
   ·exact h3 h
 ·replace hk:(if k=i then none else prot k)=some c:=hk
  replace hk':(if k'=i then none else prot k')=some c:=hk'
  by_cases hki:k=i
  ·rw [if_pos hki] at hk;cases hk
  ·by_cases hki':k'=i
   ·rw [if_pos hki'] at hk';cases hk'
   ·rw [if_neg hki] at hk;rw [if_neg hki'] at hk'
    exact inv.pinj k k' c hk hk'
 ·have hle:T0.objs.length≤T.objs.length:=by
   have:=congrArg length inv.t0
   rw [length_take] at this;omega
  show (T.objs++ [vo]).take T0.objs.length=T0.objs
  rw [List.take_append_of_le_length hle];exact inv.t0
end
section
variable {P:Program}{G:aV}{F:ki}{ops:Array Oper}{r:Option Nat}{flo:List (Nat × Option Nat)}{σ:List TV}{T T0:VT}{V R:Array Bool}{pend:List Nat}{g:Gh}{w:World}{a:Act}{prot:Nat→Option Nat}
theorem VInv.turned (st:VStat P ops flo)(inv:VInv P G ops flo σ T T0 V R pend g w a.tmps.toList prot){i:Nat}{o:Oper}(ho:ops[i]?=some o)(hiR:i∈ready .any ops R)(hiV:i∈ready .any ops V)(hF:i∉cO flo)
  {g':Gh} {w':World} {v:Value} {y:TV} {T' T0':VT} {pend':List Nat} (e:Evo g w g' w') (hfr:g'.fr=g.fr) (hB:∀b,PB prot b→w'.heap[b]?=w.heap[b]?) (hst:∀b o,PB prot b→g'.st b o→g.st b o) (hrw:RW (gP g' (PB prot)) T' w') (hy:∀d u,o.dst=some d→(a.put o.dst v).tmps.toList[d]?=some u→VR g' w' y u)
  (ht0:T'.objs.take T0'.objs.length=T0'.objs) (hpend:∀k ok y,k∈pend→ops[k]?=some ok→¬On R k→cP ops (only ops ok σ) ok=some true→bu P ok.op (bt G (only ops ok σ))=none→bs P T0 ok.op (bt G (only ops ok σ))=some y→k∈pend'∧bs P T0' ok.op (bt G (only ops ok σ))=some y):
  VInv P G ops flo (bR σ o.dst y) T' T0' (V.setIfInBounds i true) (R.setIfInBounds i true) pend' g' w' (a.put o.dst v).tmps.toList prot:=by
 obtain ⟨hun,o',ho',hdep⟩:=mem_ready.1 hiR
 rw [ho] at ho';injection ho' with ho';subst ho'
 have hnR:=gA hun
 have hVi:=gA (mem_ready.1 hiV).1
 have hlt:=(Array.getElem?_eq_some_iff.1 ho).1
 refine ⟨by simpa using inv.vs,by simpa using inv.rs,inv.cv.set hiV,inv.cr.set hiR,λk hk hnv=> ?_,λk hk hv=>cW (inv.vf k hk (bx (λh=>hF (by rw [h];exact hk)) hv)),λi' j' h=> ?_,?_,λk ok hk hv hnr=> ?_,λi' jo hf hri hnv=> ?_,λk b hk=> ?_,inv.pinj,hrw,ht0⟩
 ·by_cases hik:i=k
  ·subst hik;exact absurd (lm (by rw [inv.vs];exact hlt)) hnv
  ·exact inv.rv k (bx hik hk) λh=>hnv (cW h)
 ·have h1:i≠i':=λe=>hF (dc.2 ⟨i',some j',h,.inl e⟩)
  have h2:i≠j':=λe=>hF (dc.2 ⟨i',some j',h,.inr (by rw [e])⟩)
  exact ⟨λh3=>cW ((inv.vb i' j' h).1 (bx h1 h3)),λh3=>cW ((inv.vb i' j' h).2 (bx h2 h3))⟩
 ·refine ⟨by rw [wd,Fy];exact inv.rel.1,λs x u hs hu hw=> ?_⟩
  rw [mD] at hs
  by_cases hc:o.dst=some s∧s<σ.length
  ·rw [if_pos hc] at hs;injection hs with hs;subst hs
   exact hy s u hc.1 hu
  ·rw [if_neg hc] at hs
   have hne:o.dst≠some s:=λhd=>hc ⟨hd,(List.getElem?_eq_some_iff.1 hs).1⟩
   rw [oz,if_neg λh=>hne h.1] at hu
   refine (inv.rel.2 s x u hs hu λk ok hk hd=> ?_).mono e
   obtain ⟨h1,h2⟩:=hw k ok hk hd
   have hik:i≠k:=λh=>by
    subst h
    rw [ho] at hk;injection hk with hk;subst hk
    exact hne hd
   exact ⟨bx hik h1,bx hik h2⟩
 ·have hki:i≠k:=λh=>hnr (h▸lm (by rw [inv.rs];exact hlt))
  have hv':=bx hki hv
  have hnr':¬On R k:=λh=>hnr (cW h)
  have h1:Owed P G ops T0' pend' k ok σ:=by
   obtain ⟨h2,h3⟩:=inv.own k ok hk hv' hnr'
   refine ⟨h2,?_⟩
   rcases h3 with h3 | ⟨h3,z,h4,h5⟩
   ·exact .inl h3
   ·refine .inr ⟨h3,z,h4,?_⟩
    rcases h5 with h5 | ⟨h5,h6,h7⟩
    ·exact .inl h5
    ·obtain ⟨h8,h9⟩:=hpend k ok z h5 hk hnr' h3 h6 h7
     exact .inr ⟨h8,h6,h9⟩
  exact h1.put (y:=y) (pend':=pend') st inv.cv ho hVi hk hv' λ_ h=>h
 ·have hii:i≠i':=λh=>hF (dc.2 ⟨i',jo,hf,.inl h⟩)
  have hri':=bx hii hri
  have hnv':¬On V i':=λh=>hnv (cW h)
  have h0:=(inv.flt i' jo hf hri' hnv').sig (σ':=bR σ o.dst y) λj oj hj hoj hrj=>oP λs hs=>by
   subst hj
   cases hlk:inList (oj.looksAt ops) s with
   |false=>rfl
   |true=>
    exfalso
    have hji:j≠i:=λe=>hF (dc.2 ⟨i',some j,hf,.inr (by rw [e])⟩)
    obtain ⟨e1,he,hb1,hon⟩:=((fa st.once ho hs).2 j oj hoj hji).2 hlk
    exact hnR (hon▸inv.cr j oj hoj hrj e1 he hb1)
  refine h0.step e (λb hb=>hB b ⟨i',hb⟩) rfl (λo' d' h1 h2 h3=>((fa st.once h1 h2).2 i o ho hii).1 h3) λj hj hr=> ?_
  subst hj
  exact bx (λh=>hF (dc.2 ⟨i',some j,hf,.inr (by rw [h])⟩)) hr
 ·obtain ⟨h1,h2,h3,h4,h5,h6⟩:=inv.pr k b hk
  refine ⟨h1,cW h2,λh=> ?_,by rw [hfr];exact h4,λo2 hs=>h5 o2 (hst b o2 ⟨k,hk⟩ hs),Nat.lt_of_lt_of_le h6 e.size⟩
  by_cases hik:i=k
  ·subst hik;exact hnR h2
  ·exact h3 (bx hik h)
theorem tC (st:VStat P ops flo)(inv:VInv P G ops flo σ T T0 V R pend g w a.tmps.toList prot)(hG:GOk G g w){QQ:Exit→Act→World→Prop}{K:Act→World→Prop}{i:Nat}{o:Oper}(ho:ops[i]?=some o)
  (hiR:i∈ready .any ops R) (hiV:i∈ready .any ops V) (hF:i∉cO flo) {ro:Nat} {b:Bool} (hw:cP ops (only ops o σ) o=some b) {X:List TV→VT→Prop}
  (h:b=true→VPi P G ro o (only ops o σ) T λs T'=>X (bR σ o.dst (uT o s)) T') (hY:b=false→X (bR σ o.dst (.val undef)) T) {pend':List Nat} (T0':VT→VT) (ht0:∀σ' T' w' g',X σ' T'→Fix ro g T w T' w'→Evo g w g' w'→T'.objs.take (T0' T').objs.length=(T0' T').objs)
  (hpend:∀σ' T' k ok y,X σ' T'→k∈pend→ops[k]?=some ok→¬On R k→cP ops (only ops ok σ) ok=some true→bu P ok.op (bt G (only ops ok σ))=none→bs P T0 ok.op (bt G (only ops ok σ))=some y→k∈pend'∧bs P (T0' T') ok.op (bt G (only ops ok σ))=some y)
  (next:∀σ' T' g' w' (a':Act),X σ' T'→VInv P G ops flo σ' T' (T0' T') (V.setIfInBounds i true) (R.setIfInBounds i true) pend' g' w' a'.tmps.toList prot→Evo g w g' w'→Fix ro g T w T' w'→a'.defers=a.defers→K a' w'):wpOpIn (dH r) 0 P ops QQ i K a w:=by
 obtain ⟨_,o',ho',hdepR⟩:=mem_ready.1 hiR
 rw [ho] at ho';injection ho' with ho';subst ho'
 obtain ⟨_,o',ho',hdepV⟩:=mem_ready.1 hiV
 rw [ho] at ho';injection ho' with ho';subst ho'
 have hl:∀s,inList (o.looksAt ops) s=true→∀(k:Nat) ok,ops[k]?=some ok→ok.dst=some s→On V k∧On R k:=λs hs k ok hk hd=>
  ⟨(oQ st.once ho hdepV hs hk hd).2,(oQ st.once ho hdepR hs hk hd).2⟩
 have hσ:=inv.rel.only hl
 have hwant:=jx hw hσ
 cases b with
 |false=>
  refine vH ho hwant ?_
  refine next _ T g w _ (hY rfl) ?_ (Evo.refl _ _) (Fix.refl _ _ _ _) (da _ _ _)
  exact inv.turned st ho hiR hiV hF (Evo.refl _ _) rfl (λ_ _=>rfl) (λ_ _ _ h=>h) inv.rw (λd u hd hu=>by
   rw [oz] at hu
   by_cases hc:o.dst=some d∧d<a.tmps.toList.length
   ·rw [if_pos hc] at hu;injection hu with hu;subst hu;exact .val _
   ·rw [if_neg hc] at hu;exact absurd ⟨hd,(List.getElem?_eq_some_iff.1 hu).1⟩ hc) (ht0 _ _ w g (hY rfl) (Fix.refl _ _ _ _) (Evo.refl _ _)) (λk ok y=>hpend _ T k ok y (hY rfl))
 |true=>
  unfold wpOpIn
  simp only [ho]
  rw [if_pos hwant]
  refine h rfl r (gP g (PB prot)) w a _ _ inv.rw hG.toP (VRs.gh (g:=g) (g':=gP g (PB prot)) rfl rfl rfl hσ) λs T' g1 w1 a' hput hX e1 r1 hs hd' hfix=> ?_
  obtain ⟨v,rfl⟩:=hput
  obtain ⟨g',rfl,hfr,e,hB,hst⟩:=e1.base
  have hfix':Fix ro g T w T' w1:=⟨hfix.len,hfix.same,hfix.heap⟩
  refine next _ T' g' w1 _ hX ?_ e hfix' hd'
  refine inv.turned st ho hiR hiV hF e hfr hB hst r1 (λd u hd hu=> ?_) (ht0 _ _ w1 g' hX hfix' e) (λk ok y=>hpend _ T' k ok y hX)
  unfold uT
  rw [hd]
  simp only
  rw [List.getD_eq_getElem?_getD]
  have hlen:s.length=(a.put o.dst v).tmps.toList.length:=hs.1.symm
  have hdl:=(List.getElem?_eq_some_iff.1 hu).1
  rw [←hlen] at hdl
  rw [getElem?_eq_getElem hdl]
  exact (hs.2 d _ u (getElem?_eq_getElem hdl) hu).ofP
theorem tD:∀{l:List Nat} {V:Array Bool} {k:Nat},On (fV l V) k→k∈l∨On V k
 |[],_,_,h=>.inr h
 |i::l,V,k,h=>by
  rcases tD (l:=l) h with h | h
  ·exact .inl (mem_cons_of_mem _ h)
  ·by_cases hik:i=k
   ·exact .inl (by rw [hik];exact mem_cons_self)
   ·exact .inr (bx hik h)
theorem np:∀{l:List Nat} {V:Array Bool} {k:Nat},(On V k∨(k∈l∧k<V.size))→On (fV l V) k
  |[],_,_,h=>by
    rcases h with h | h
    · exact h
    · cases h.1
  |i::l,V,k,h=>by
    refine np (l:=l) ?_
    rcases h with h | ⟨h,hk⟩
    · exact .inl (cW h)
    · rcases mem_cons.1 h with h | h
      · subst h;exact .inl (lm hk)
      · exact .inr ⟨h,by simpa using hk⟩
theorem we (inv:VInv P G ops flo σ T T0 V R pend g w a.tmps.toList prot){j:Nat}(hj:j∈ready .any ops R)(hV:¬On V j)(hF:j∉cO flo):j∈ready .any ops (fV (cO flo) V):=by
 obtain ⟨hun,o,ho,hdep⟩:=mem_ready.1 hj
 have hsz:∀(l:List Nat) (V:Array Bool),(fV l V).size=V.size:=by
  intro l
  induction l with
  |nil=>intro V;rfl
  |cons i l ih=>intro V;rw [fV,ih];simp
 have hlt:=(Array.getElem?_eq_some_iff.1 ho).1
 refine mem_ready.2 ⟨Jk (by rw [hsz,inv.vs];exact hlt) λh=> ?_,o,ho,λe he hb=> ?_⟩
 ·rcases tD h with h | h
  ·exact hF h
  ·exact hV h
 ·have h1:=hdep e he hb
  by_cases hv:On V e.on
  ·exact np (.inl hv)
  ·refine np (.inr ⟨inv.rv e.on h1 hv,?_⟩)
   have h2:=inv.rs
   have h3:=inv.vs
   rcases lt_or_ge e.on R.size with h | h
   ·omega
   ·simp [Array.getElem?_eq_none h] at h1
theorem wg {i:Nat}:∀{l:List Nat} {k:Nat},k∈l→k≠i→k∈kQ i l
 |a::l,k,h,hn=>by
  simp only [kQ]
  cases hb:beq a i with
  |true=>
   have:=eq_of_beq_eq_true hb
   simp only [cond_true]
   rcases mem_cons.1 h with h | h
   ·exact absurd (h.trans this) hn
   ·exact wg h hn
  |false=>
   simp only [cond_false]
   rcases mem_cons.1 h with h | h
   ·rw [h];exact mem_cons_self
   ·exact mem_cons_of_mem _ (wg h hn)
theorem wh {i:Nat}:∀{l:List Nat} {k:Nat},k∈kQ i l→k∈l
 |a::l,k,h=>by
  simp only [kQ] at h
  cases hb:beq a i with
  |true=>rw [hb] at h;exact mem_cons_of_mem _ (wh h)
  |false=>
   rw [hb] at h
   rcases mem_cons.1 h with h | h
   ·rw [h];exact mem_cons_self
   ·exact mem_cons_of_mem _ (wh h)
theorem Ay (inv:VInv P G ops flo σ T T0 V R pend g w a.tmps.toList prot){j i0:Nat}(hn:¬On R i0)(hj:j∈ready .any ops R)(hV:¬On V j)(hF:j∉cO flo):j∈ready .any ops (fV (kQ i0 (cO flo)) V):=by
 obtain ⟨hun,o,ho,hdep⟩:=mem_ready.1 hj
 have hsz:∀(l:List Nat) (V:Array Bool),(fV l V).size=V.size:=by
  intro l
  induction l with
  |nil=>intro V;rfl
  |cons i l ih=>intro V;rw [fV,ih];simp
 have hlt:=(Array.getElem?_eq_some_iff.1 ho).1
 refine mem_ready.2 ⟨Jk (by rw [hsz,inv.vs];exact hlt) λh=> ?_,o,ho,λe he hb=> ?_⟩
 ·rcases tD h with h | h
  ·exact hF (wh h)
  ·exact hV h
 ·have h1:=hdep e he hb
  by_cases hv:On V e.on
  ·exact np (.inl hv)
  ·refine np (.inr ⟨wg (inv.rv e.on h1 hv) (λh=>hn (h▸h1)),?_⟩)
   have h2:=inv.rs
   have h3:=inv.vs
   rcases lt_or_ge e.on R.size with h | h
   ·omega
   ·simp [Array.getElem?_eq_none h] at h1
def oR (R:Array Bool):Nat:=R.toList.count false
theorem LT {R:Array Bool}{i:Nat}(hi:i<R.size)(h:¬On R i):oR (R.setIfInBounds i true)+1≤oR R:=by
 unfold oR
 rw [Array.toList_setIfInBounds]
 have hl:i<R.toList.length:=by simpa using hi
 have h0:R.toList[i]=false:=by
  unfold On at h
  simp [hi] at h ⊢;exact h
 have hm:false∈R.toList:=by rw [←h0];exact List.getElem_mem hl
 have hpos:0<R.toList.count false:=List.count_pos_iff.2 hm
 rw [List.count_set hl,h0]
 simp only [beq_self_eq_true,if_true,Nat.add_zero,show ((true:Bool)==false)=false from rfl,Bool.false_eq_true,if_false]
 omega
theorem Jl {R:Array Bool}(h:oR R=0):∀i,i<R.size→On R i:=λi hi=>by
 unfold oR at h
 have h1:false∉R.toList:=List.count_eq_zero.1 h
 unfold On
 simp [hi]
 cases hq:R[i] with
 |true=>rfl
 |false=>
  exfalso
  apply h1
  rw [←hq]
  exact mem_toList_iff.2 (Array.getElem_mem hi)
theorem tE (hf:gu ops=true){R:Array Bool}(hs:R.size=ops.size)(h:ready .any ops R= []):∀i,i<ops.size→On R i:=rH hf hs h
theorem CL {R:Array Bool}(h:∀i,i<ops.size→On R i):ready .any ops R= []:=by
 apply List.eq_nil_iff_forall_not_mem.2
 intro i hi
 obtain ⟨hun,o,ho,_⟩:=mem_ready.1 hi
 exact gA hun (h i (Array.getElem?_eq_some_iff.1 ho).1)
end
section
variable {P:Program}{ops:Array Oper}{flo:List (Nat × Option Nat)}{F:List Nat}
theorem Az {n:Nat}:∀{l:List Nat},xk n l=true→∀i∈l,i<n
 |[],_,i,h=>by cases h
 |a::l,h,i,hi=>by
  simp only [xk,and_eq_true] at h
  rcases mem_cons.1 hi with rfl | hi
  ·exact le_of_ble_eq_true h.1
  ·exact Az h.2 i hi
theorem MaskOk.all {n:Nat}:∀(F:List Nat) (m:Nat) (V:Array Bool),MaskOk n m V→(∀i∈F,i<n)→MaskOk n (lor m (jO F)) (fV F V)
 |[],m,V,h,_=>by
  have:lor m (jO [])=m:=Nat.or_zero m
  rw [this];exact h
 |i::l,m,V,h,k=>by
  have h1:=MaskOk.all l _ _ (h.set (k i mem_cons_self)) λj hj=>k j (mem_cons_of_mem _ hj)
  have e:lor m (jO (i::l))=lor (lor m (fT i)) (jO l):=(Nat.or_assoc m (fT i) (jO l)).symm
  rw [e];exact h1
theorem pQ {i k:Nat}:∀{l:List Nat},k∈kQ i l→k∈l
 |[],h=>by cases h
 |a::l,h=>by
  simp only [kQ] at h
  cases hb:beq a i with
  |true=>rw [hb] at h;exact mem_cons_of_mem _ (pQ h)
  |false=>
   rw [hb] at h
   rcases mem_cons.1 h with rfl | h
   ·exact mem_cons_self
   ·exact mem_cons_of_mem _ (pQ h)
theorem CM:∀(L:List Oper) (j:Nat),(jN L)[j]?=(L[j]?).map λo=>fU o.after.toList
 |[],j=>by simp [jN]
 |o::L,0=>by simp [jN]
 |o::L,j+1=>by simpa [jN] using CM L j
theorem Hk {m:Nat}{V:Array Bool}(h:MaskOk ops.size m V)(j:Nat):uS (jN ops.toList) m j=qR ops V j:=by
 unfold uS qR
 rw [CM,getElem?_toList]
 cases ops[j]? with
 |none=>rfl
 |some o=>exact Fu h o
theorem Jm {V:Array Bool}{j:Nat}(h:qR ops V j=true):j<ops.size:=by
 unfold qR at h
 split at h
 ·rename_i o ho;exact (Array.getElem?_eq_some_iff.1 ho).1
 ·cases h
theorem xv (hf:gu ops=true){i:Nat}(hi:i<ops.size):∀{l:List Nat},qS ops.size (rR ops.toList 0 []) i l=true→(l.all λk=>anc ops ops.size i k)=true
 |[],_=>rfl
 |k::l,h=>by
  simp only [qS,and_eq_true] at h
  rw [List.all_cons,Py hf hi h.1,xv hf hi h.2];rfl
theorem fW (hf:gu ops=true)(hF:∀i∈F,i<ops.size):∀(l:List (Nat × FK)) (m:Nat) (V:Array Bool) (pend:List Nat),MaskOk ops.size m V→
  dC P ops (jN ops.toList) (rR ops.toList 0 []) flo F l m pend=true→cF P ops flo F l V pend=true
 |[],m,V,pend,hm,h=>by
  simp only [dC] at h
  simp only [cF,fB hm];exact h
 | (i,.own)::l,m,V,pend,hm,h=>by
  simp only [dC,and_eq_true] at h
  obtain ⟨⟨⟨h1,h2⟩,h3⟩,h4⟩:=h
  rw [←fB hm] at h1
  have hlt:i<ops.size:=by
   obtain ⟨_,o,ho,_⟩:=mem_ready.1 (cj.1 h1)
   exact (Array.getElem?_eq_some_iff.1 ho).1
  simp only [cF,and_eq_true]
  exact ⟨⟨⟨h1,h2⟩,h3⟩,fW hf hF l _ _ _ (hm.set hlt) h4⟩
 | (i,.turn pe)::l,m,V,pend,hm,h=>by
  simp only [dC,and_eq_true] at h
  obtain ⟨⟨⟨⟨h0,h1⟩,h2⟩,h3⟩,h4⟩:=h
  rw [←fB hm] at h1
  rw [←fB (hm.all F _ _ hF)] at h3
  have hlt:i<ops.size:=by
   obtain ⟨_,o,ho,_⟩:=mem_ready.1 (cj.1 h1)
   exact (Array.getElem?_eq_some_iff.1 ho).1
  simp only [cF,and_eq_true]
  exact ⟨⟨⟨⟨h0,h1⟩,h2⟩,h3⟩,fW hf hF l _ _ _ (hm.set hlt) h4⟩
 | (i,.put pe)::l,m,V,pend,hm,h=>by
  simp only [dC,and_eq_true] at h
  obtain ⟨⟨⟨⟨h0,h1⟩,h2⟩,h3⟩,h4⟩:=h
  rw [←fB hm] at h1
  rw [←fB (hm.all F _ _ hF)] at h3
  have hlt:i<ops.size:=by
   obtain ⟨_,o,ho,_⟩:=mem_ready.1 (cj.1 h1)
   exact (Array.getElem?_eq_some_iff.1 ho).1
  simp only [cF,and_eq_true]
  exact ⟨⟨⟨⟨h0,h1⟩,h2⟩,h3⟩,fW hf hF l _ _ _ (hm.set hlt) h4⟩
 | (i,.bar)::l,m,V,pend,hm,h=>by
  simp only [dC,and_eq_true] at h
  obtain ⟨⟨⟨⟨h1,h2⟩,h3⟩,h5⟩,h4⟩:=h
  rw [←fB hm] at h1
  rw [←fB (hm.all F _ _ hF)] at h3
  have hlt:i<ops.size:=by
   obtain ⟨_,o,ho,_⟩:=mem_ready.1 (cj.1 h1)
   exact (Array.getElem?_eq_some_iff.1 ho).1
  simp only [cF,and_eq_true]
  exact ⟨⟨⟨⟨h1,h2⟩,h3⟩,xv hf hlt h5⟩,fW hf hF l _ _ _ (hm.set hlt) h4⟩
 | (i,.late)::l,m,V,pend,hm,h=>by
  simp only [dC,and_eq_true] at h
  obtain ⟨⟨⟨h0,h1⟩,h3⟩,h4⟩:=h
  rw [←fB hm] at h1
  rw [←fB (hm.all (kQ i F) _ _ λk hk=>hF k (pQ hk))] at h3
  have hlt:i<ops.size:=by
   obtain ⟨_,o,ho,_⟩:=mem_ready.1 (cj.1 h1)
   exact (Array.getElem?_eq_some_iff.1 ho).1
  simp only [cF,and_eq_true]
  exact ⟨⟨⟨by simpa only [and_eq_true] using h0,h1⟩,h3⟩,fW hf hF l _ _ _ (hm.set hlt) h4⟩
 | (i,.box j)::l,m,V,pend,hm,h=>by
  simp only [dC,and_eq_true] at h
  obtain ⟨⟨⟨⟨h0,h1⟩,h2⟩,h3⟩,h4⟩:=h
  rw [←fB hm] at h1
  rw [←fB (hm.all (kQ j F) _ _ λk hk=>hF k (pQ hk))] at h3
  have hlt:i<ops.size:=by
   obtain ⟨_,o,ho,_⟩:=mem_ready.1 (cj.1 h1)
   exact (Array.getElem?_eq_some_iff.1 ho).1
  rw [Hk (hm.set hlt)] at h2
  have hltj:=Jm h2
  simp only [cF,and_eq_true]
  exact ⟨⟨⟨⟨by simpa only [and_eq_true] using h0,h1⟩,h2⟩,h3⟩,fW hf hF l _ _ _ ((hm.set hlt).set hltj) h4⟩
theorem lJ:∀(L:List Oper) (k d i:Nat),(d,i)∈gI k L ↔ ∃j o,L[j]?=some o∧i=k+j∧o.dst=some d
 |[],k,d,i=>by simp [gI]
 |o::L,k,d,i=>by
  have ih:=lJ L (k+1) d i
  have step:(∃j o',L[j]?=some o'∧i=k+1+j∧o'.dst=some d) ↔ ∃j o',(o::L)[j+1]?=some o'∧i=k+(j+1)∧o'.dst=some d:=by
   constructor
   ·rintro ⟨j,o',h1,h2,h3⟩;exact ⟨j,o',by simpa using h1,by omega,h3⟩
   ·rintro ⟨j,o',h1,h2,h3⟩;exact ⟨j,o',by simpa using h1,by omega,h3⟩
  simp only [gI]
  split
  ·rename_i d' hd'
   rw [mem_cons,ih,step]
   constructor
   ·rintro (h | ⟨j,o',h⟩)
    ·injection h with h1 h2
     exact ⟨0,o,rfl,by omega,by rw [hd',h1]⟩
    ·exact ⟨j+1,o',h⟩
   ·rintro ⟨j,o',h1,h2,h3⟩
    cases j with
    |zero=>
     simp at h1;subst h1
     rw [hd'] at h3;injection h3 with h3
     left;rw [h3,h2];rfl
    |succ j=>exact .inr ⟨j,o',h1,h2,h3⟩
  ·rename_i hd'
   rw [ih,step]
   constructor
   ·rintro ⟨j,o',h⟩;exact ⟨j+1,o',h⟩
   ·rintro ⟨j,o',h1,h2,h3⟩
    cases j with
    |zero=>
     simp at h1;subst h1
     rw [hd'] at h3;cases h3
    |succ j=>exact ⟨j,o',h1,h2,h3⟩
theorem vJ:∀{W:List (Nat × Nat)} {m:Nat},rS W m=true→(∀p∈W,m.testBit p.1=false)∧W.Pairwise λp q=>p.1≠q.1
 |[],_,_=>⟨by simp,List.Pairwise.nil⟩
 |p::l,m,h=>by
  simp only [rS] at h
  cases hb:hU m p.1 with
  |true=>rw [hb] at h;cases h
  |false=>
   rw [hb,cond_false] at h
   obtain ⟨h1,h2⟩:=vJ h
   rw [pL] at hb
   refine ⟨λq hq=> ?_,List.pairwise_cons.2 ⟨λq hq he=> ?_,h2⟩⟩
   ·rcases mem_cons.1 hq with rfl | hq
    ·exact hb
    ·have:=h1 q hq
     rw [mw,Bool.or_eq_false_iff] at this
     exact this.1
   ·have:=h1 q hq
    rw [mw,Bool.or_eq_false_iff,pM,decide_eq_false_iff_not] at this
    exact this.2 he
theorem pR:∀{W:List (Nat × Nat)},(W.Pairwise λp q=>p.1≠q.1)→∀{d i:Nat},(d,i)∈W→tu W d=some i
 |[],_,_,_,h=>by cases h
 |p::l,hp,d,i,h=>by
  simp only [tu]
  rcases mem_cons.1 h with rfl | h
  ·simp [beq_refl]
  ·have hne:=(List.pairwise_cons.1 hp).1 _ h
   cases hb:beq p.1 d with
   |true=>exact absurd (eq_of_beq_eq_true hb) hne
   |false=>rw [cond_false];exact pR (List.pairwise_cons.1 hp).2 h
theorem xw {W:List (Nat × Nat)}{d:Nat}:∀{l:List Nat},qT W d l=true→∀s∈l,∀i,tu W s=some i→hU d i=true
 |[],_,s,h=>by cases h
 |a::l,h,s,hs=>by
  simp only [qT,and_eq_true] at h
  intro i hi
  rcases mem_cons.1 hs with rfl | hs
  ·have h1:=h.1
   rw [hi] at h1;exact h1
  ·exact xw h.2 s hs i hi
theorem AA {W:List (Nat × Nat)}:∀{L:List Oper},xj ops W L=true→∀o∈L,qT W (fU o.after.toList) (o.looksAt ops)=true
 |[],_,o,h=>by cases h
 |a::l,h,o,ho=>by
  simp only [xj,and_eq_true] at h
  rcases mem_cons.1 ho with rfl | ho
  ·exact h.1
  ·exact AA h.2 o ho
theorem LU (hf:gu ops=true)(h:G8 ops=true):tq ops=true:=by
 unfold G8 at h
 rw [and_eq_true] at h
 obtain ⟨h1,h2⟩:=h
 obtain ⟨_,hp⟩:=vJ h1
 have look:∀(i j d:Nat) (o oj:Oper),ops[i]?=some o→o.dst=some d→ops[j]?=some oj→inList (oj.looksAt ops) d=true→∃e∈oj.after.toList,binds .any e=true∧e.on=i:=λi j d o oj ho hd hoj hl=>by
  have hm:(d,i)∈gI 0 ops.toList:=(lJ _ _ _ _).2 ⟨i,o,by rw [getElem?_toList];exact ho,by omega,hd⟩
  have hfw:=pR hp hm
  have hmem:oj∈ops.toList:=by
   obtain ⟨hlt,he⟩:=Array.getElem?_eq_some_iff.1 hoj
   rw [←he];exact mem_toList_iff.2 (Array.getElem_mem hlt)
  have:=xw (AA h2 oj hmem) d (cj.1 hl) i hfw
  rw [pL] at this
  obtain ⟨e,he,hb,hon⟩:=(kg _ _).1 this
  exact ⟨e,he,hb,hon⟩
 unfold tq
 refine all_eq_true.2 λi hi=> ?_
 cases ho:ops[i]? with
 |none=>rfl
 |some o=>
  simp only
  cases hd:o.dst with
  |none=>rfl
  |some d=>
   simp only [and_eq_true,not_eq_true']
   refine ⟨?_,all_eq_true.2 λj hj=> ?_⟩
   ·cases hl:inList (o.looksAt ops) d with
    |false=>rfl
    |true=>
     obtain ⟨e,he,hb,hon⟩:=look i i d o o ho hd ho hl
     have:=(fM hf ho).1 e (mem_toList_iff.1 he) hb
     omega
   ·by_cases hji:j=i
    ·subst hji;simp [beq_refl]
    ·cases hoj:ops[j]? with
     |none=>simp
     |some oj=>
      simp only [or_eq_true,and_eq_true]
      right
      refine ⟨?_,?_⟩
      ·cases hdj:oj.dst with
       |none=>rfl
       |some d'=>
        simp only [not_eq_true']
        cases hb:beq d' d with
        |false=>rfl
        |true=>
         have:=eq_of_beq_eq_true hb
         subst this
         have m1:(d',i)∈gI 0 ops.toList:=(lJ _ _ _ _).2 ⟨i,o,by rw [getElem?_toList];exact ho,by omega,hd⟩
         have m2:(d',j)∈gI 0 ops.toList:=(lJ _ _ _ _).2 ⟨j,oj,by rw [getElem?_toList];exact hoj,by omega,hdj⟩
         have e1:=pR hp m1
         rw [pR hp m2] at e1
         injection e1 with e1
         exact absurd e1 hji
      ·cases hl:inList (oj.looksAt ops) d with
       |false=>exact .inl rfl
       |true=>
        right
        obtain ⟨e,he,hb,hon⟩:=look i j d o oj ho hd hoj hl
        exact any_eq_true.2 ⟨e,he,by rw [hb,hon,beq_refl];rfl⟩
end
section
variable {P:Program}{G:aV}{F:ki}{ops:Array Oper}{r:Option Nat}{flo:List (Nat × Option Nat)}{σ:List TV}{T T0:VT}{V R:Array Bool}{pend:List Nat}{g:Gh}{w:World}{a:Act}{prot:Nat→Option Nat}
theorem Hl (st:VStat P ops flo)(inv:VInv P G ops flo σ T T0 V R pend g w a.tmps.toList prot)(hG:GOk G g w)(hbx:dM P G ops flo V σ flo=true){QQ:Exit→Act→World→Prop}{K:Act→World→Prop}{j:Nat}(hj:j∈ready .any ops R)(hVF:On V j∨(¬On V j∧j∈cO flo))
  (next:∀g' w' (a':Act) prot',VInv P G ops flo σ T T0 V (R.setIfInBounds j true) pend g' w' a'.tmps.toList prot'→Evo g w g' w'→(∀n,Fix n g T w T w')→a'.defers=a.defers→K a' w'):wpOpIn (dH r) 0 P ops QQ j K a w:=by
 rcases hVF with hV | ⟨hV,hF⟩
 ·exact Ax st inv hG hj hV λg' w' a'=>next g' w' a' prot
 ·obtain ⟨i,jo,h1,h2⟩:=dc.1 hF
  rcases h2 with rfl | rfl
  ·exact Hi st inv h1 hj hV next
  ·exact Hj st inv hG hbx h1 hj hV λg' w' a'=>next g' w' a' prot
theorem Hm {QQ:Exit→Act→World→Prop}(h:ready .any ops R= [])(hq:QQ .normal a w):∀fuel,wpAnyIn (dH r) 0 P .any ops QQ fuel R a w
 | 0=>⟨h,hq⟩
 |_+1=>⟨λ_=>hq,λj hj=>by rw [h] at hj;cases hj⟩
theorem xx {QQ:Exit→Act→World→Prop}(hf:gu ops=true)(hs:R.size=ops.size){i:Nat}(hi:i<ops.size)(hn:¬On R i){fuel:Nat}(hfu:oR R≤fuel)
  (step:∀n,n<fuel→∀j∈ready .any ops R,oR (R.setIfInBounds j true)≤n→wpOpIn (dH r) 0 P ops QQ j (wpAnyIn (dH r) 0 P .any ops QQ n (R.setIfInBounds j true)) a w):wpAnyIn (dH r) 0 P .any ops QQ fuel R a w:=by
 cases fuel with
 |zero=>exact absurd (Jl (by omega) i (by rw [hs];exact hi)) hn
 |succ n=>
  refine ⟨λh=>absurd (tE hf hs h i hi) hn,λj hj=>step n (Nat.lt_succ_self n) j hj ?_⟩
  obtain ⟨hun,o,ho,_⟩:=mem_ready.1 hj
  have:=LT (R:=R) (i:=j) (by rw [hs];exact (Array.getElem?_eq_some_iff.1 ho).1) (gA hun)
  omega
theorem lK {l:List Nat}{q:Nat→Bool}(h:l.all q=true){k:Nat}(hk:k∈l):q k=true:=all_eq_true.1 h k hk
theorem CN:∀{l m:List Nat},CD l m=true→l=m
 |[],[],_=>rfl
 |a::l,b::m,h=>by
  simp only [CD,and_eq_true] at h
  rw [eq_of_beq_eq_true h.1,CN h.2]
 |[],_::_,h=>by cases h
 |_::_,[],h=>by cases h
theorem xy {b:Bool}{X:Prop}{n:Nat}{op:Op}{l:List TV}(h:cond b X (aR n op l)):b=true∧X:=by
 cases b with
 |false=>exact h.elim
 |true=>exact ⟨rfl,h⟩
theorem CO {id off n:Nat}{l:List Nat}(h:pO P G ops id off n σ l=true){k:Nat}{o:Oper}(hk:k∈l)(ho:ops[k]?=some o)(hw:cP ops (only ops o σ) o=some true)(hp:bu P o.op (bt G (only ops o σ))=none):apartRead P id off n o.op (bt G (only ops o σ))=true:=by
 induction l with
 |nil=>cases hk
 |cons a l ih=>
  unfold pO at h
  rw [and_eq_true] at h
  rcases mem_cons.1 hk with e | hk
  ·subst e
   have h1:=h.1
   rw [ho] at h1
   simp only [hw,hp,isSome_none,Bool.false_or] at h1
   exact h1
  ·exact ih h.2 hk
theorem Fc {T0 T1:VT}{l:List Nat}(h:rV P G ops T0 T1 σ l=true){k:Nat}{o:Oper}{y:TV}(hk:k∈l)(ho:ops[k]?=some o)(hw:cP ops (only ops o σ) o=some true)(hp:bu P o.op (bt G (only ops o σ))=none)(hr:bs P T0 o.op (bt G (only ops o σ))=some y):bs P T1 o.op (bt G (only ops o σ))=some y:=by
 induction l with
 |nil=>cases hk
 |cons a l ih=>
  unfold rV at h
  rw [and_eq_true] at h
  rcases mem_cons.1 hk with e | hk
  ·subst e
   have h1:=h.1
   rw [ho] at h1
   simp only [hw,hp,isSome_none,Bool.false_or,hr] at h1
   split at h1
   ·rename_i x y' hx hy
    injection hx with hx;subst hx
    rw [hy,ze _ _ h1]
   ·rename_i hx;cases hx
   ·cases h1
  ·exact ih h.2 hk
theorem Fd {T0 T1:VT}{l:List Nat}(h:rW P G ops T0 T1 σ l){k:Nat}{o:Oper}{y:TV}(hk:k∈l)(ho:ops[k]?=some o)(hw:cP ops (only ops o σ) o=some true)(hp:bu P o.op (bt G (only ops o σ))=none)(hr:bs P T0 o.op (bt G (only ops o σ))=some y):bs P T1 o.op (bt G (only ops o σ))=some y:=by
 induction l with
 |nil=>cases hk
 |cons a l ih=>
  unfold rW at h
  rcases mem_cons.1 hk with e | hk
  ·subst e
   have h1:=h.1
   rw [ho] at h1
   simp only [hw,hp,isSome_none,cond_false] at h1
   rw [←h1];exact hr
  ·exact ih h.2 hk
theorem Wd {b c:Bool}{A X:Prop}{n:Nat}{op:Op}{l:List TV}(h:cond b (A∧X) (cond c X (aR n op l))):(A∨c=true)∧X:=by
 cases b with
 |true=>exact ⟨.inl h.1,h.2⟩
 |false=>
  cases c with
  |true=>exact ⟨.inr rfl,h⟩
  |false=>exact h.elim
theorem VPi.mono {ro:Nat}{o:Oper}{s:List TV}{T:VT}{K K':List TV→VT→Prop}(h:VPi P G ro o s T K)(k:∀s T,K s T→K' s T):VPi P G ro o s T K':=
 λr g w a next Q rw0 hG hσ hn=>h r g w a next Q rw0 hG hσ λσ' T' g' w' a' hp hk=>hn σ' T' g' w' a' hp (k _ _ hk)
theorem LV {g:Gh}{w:World}(r:RW g T w){ro:Nat}{t:TypeId}{id off:Nat}{x:TV}{ua u:Value}{T':VT}(h:xp P ro T t (.ptr id off) x=some T')(ha:VR g w (.ptr id off) ua)(hx:VR g w x u):
  ∃g' w',(storeAt t ua u).run P w=.ok () w'∧VR g' w' (.val undef) undef∧Evo g w g' w'∧RW g' T' w'∧Fix ro g T w T' w':=by
 unfold xp at h
 split at h
 ·rename_i y T1 h1
  injection h with h;subst h
  obtain ⟨g',w',k1,_,k3,k4,k5⟩:=w8 (P:=P) r h1 ha hx
  exact ⟨g',w',k1,.val _,k3,k4,k5⟩
 ·cases hr:ble ro id with
  |false=>simp only [hr] at h;cases h
  |true=>
   simp only [hr,cond_true,map_eq_some_iff] at h
   obtain ⟨⟨y,T1⟩,h1,h2⟩:=h
   simp only at h2;subst h2
   obtain ⟨g',w',k1,_,k3,k4,k5⟩:=nY (P:=P) (ro:=ro) r h1 ha hx (le_of_ble_eq_true hr)
   exact ⟨g',w',k1,.val _,k3,k4,k5⟩
theorem AB {call:jP}{rnd:lI}(hc:jw P G call)(hrr:lk P G rnd)(st:VStat P ops flo){ro:Nat}{K:List TV→VT→Prop}{gs:Gh}{Ts:VT}{ws:World}{ds:List Deferred}{QQ:Act→World→Prop}
  (hq:∀σ' T' g' w' (a':Act),K σ' T'→Evo gs ws g' w'→RW g' T' w'→VRs g' w' σ' a'.tmps.toList→a'.defers=ds→Fix ro gs Ts ws T' w'→QQ a' w'):
  ∀(fuel:Nat) (l:List (Nat × FK)) (V:Array Bool) (T0:VT) (pend:List Nat) (σ:List TV) (T:VT) (R:Array Bool) (g:Gh) (w:World) (a:Act) (prot:Nat→Option Nat),
   cF P ops flo (cO flo) l V pend=true→dp P G F call rnd ro ops flo V T0 l σ T K→VInv P G ops flo σ T T0 V R pend g w a.tmps.toList prot→GOk G g w→a.defers=ds→Evo gs ws g w→Fix ro gs Ts ws T w→ro≤T0.objs.length→oR R≤fuel→
   wpAnyIn (dH r) 0 P .any ops (g6 QQ) fuel R a w:=by
 intro fuel
 induction fuel using Nat.strongRecOn with
 |_ fuel ihf=>
 intro l
 induction l with
 |nil=>
  intro V T0 pend σ T R g w a prot hp h inv hG hds hes hfx hro hfu
  have hallV:∀i,i<ops.size→On V i:=tE st.flow inv.vs (by simpa [cF] using hp)
  by_cases hall:∀i,i<ops.size→On R i
  ·refine Hm (CL hall) (hq σ T g w a h hes inv.base ⟨inv.rel.1,λs x u hs hu=>inv.rel.2 s x u hs hu λk o hk _=> ?_⟩ hds hfx) _
   have hlt:=(Array.getElem?_eq_some_iff.1 hk).1
   exact ⟨hallV k hlt,hall k hlt⟩
  ·obtain ⟨i,hi⟩:=Classical.not_forall.1 hall
   obtain ⟨hi,hn⟩:=Classical.not_imp.1 hi
   refine xx st.flow inv.rs hi hn hfu λn hlt j hj hoff=> ?_
   obtain ⟨_,o,ho,_⟩:=mem_ready.1 hj
   exact Ax st inv hG hj (hallV j (Array.getElem?_eq_some_iff.1 ho).1) λg' w' a' inv' e fx hd=>ihf n hlt [] V T0 pend σ T _ g' w' a' prot hp h inv' (hG.mono e) (hd.trans hds) (hes.trans e) (hfx.trans hes (fx ro)) hro hoff
 |cons p l ih=>
  intro V T0 pend σ T R g w a prot hp h inv hG hds hes hfx hro hfu
  obtain ⟨i,k⟩:=p
  --while it waits
  have wait:∀(hbx:dM P G ops flo V σ flo=true) {i0:Nat} (hi0:i0<ops.size) (hn0:¬On R i0)
    (hready:∀j∈ready .any ops R,¬On V j→j∉cO flo→∀n,n<fuel→oR (R.setIfInBounds j true)≤n→wpOpIn (dH r) 0 P ops (g6 QQ) j (wpAnyIn (dH r) 0 P .any ops (g6 QQ) n (R.setIfInBounds j true)) a w),
    wpAnyIn (dH r) 0 P .any ops (g6 QQ) fuel R a w:=λhbx i0 hi0 hn0 hready=>by
   refine xx st.flow inv.rs hi0 hn0 hfu λn hlt j hj hoff=> ?_
   by_cases hVF:On V j∨(¬On V j∧j∈cO flo)
   ·exact Hl st inv hG hbx hj hVF λg' w' a' prot' inv' e fx hd=>ihf n hlt ((i,k)::l) V T0 pend σ T _ g' w' a' prot' hp h inv' (hG.mono e) (hd.trans hds) (hes.trans e) (hfx.trans hes (fx ro)) hro hoff
   ·have h1:¬On V j:=λh=>hVF (.inl h)
    exact hready j hj h1 (λh=>hVF (.inr ⟨h1,h⟩)) n hlt hoff
  cases k with
  |own=>
   simp only [cF,and_eq_true,not_eq_true'] at hp
   obtain ⟨⟨⟨hri,hnF⟩,hnd⟩,hp⟩:=hp
   have hri:=cj.1 hri
   have hF:=gw hnF
   obtain ⟨_,o,ho,_⟩:=mem_ready.1 hri
   simp only [ho] at hnd hp
   simp only [dp,ho] at h
   replace h:=gz h
   have hsub:∀k∈pend,k∈(bif isRead P o.op then i::pend else pend):=λk hk=>by
    cases isRead P o.op
    ·exact hk
    ·exact mem_cons_of_mem _ hk
   have go:∀{y},((cP ops (only ops o σ) o=some false∧y=.val undef)∨(cP ops (only ops o σ) o=some true∧(nm P G ⟨[],[]⟩ o (only ops o σ) y∨(i∈(bif isRead P o.op then i::pend else pend)∧bu P o.op (bt G (only ops o σ))=none∧bs P T0 o.op (bt G (only ops o σ))=some y))))→
     dp P G F call rnd ro ops flo (V.setIfInBounds i true) T0 l (bR σ o.dst y) T K→wpAnyIn (dH r) 0 P .any ops (g6 QQ) fuel R a w:=λhow h=>
    ih _ T0 _ _ T R g w a prot hp h (LS st inv ho hri hF hnd hsub how) hG hds hes hfx hro hfu
   split at h
   ·rename_i b hb
    cases b with
    |true=>
     simp only [cond_true] at h
     split at h
     ·rename_i y hy
      obtain ⟨hpu,h⟩:=h
      rcases Jf hpu with h1 | ⟨h1,h2,h3⟩
      ·exact go (.inr ⟨hb,.inl h1⟩) h
      ·exact go (.inr ⟨hb,.inr ⟨by rw [h1];exact mem_cons_self,h2,h3⟩⟩) h
     ·exact h.elim
     ·split at h
      ·rename_i y hy
       rcases Jg hy with h1 | ⟨h1,h2,h3⟩
       ·exact go (.inr ⟨hb,.inl h1⟩) h
       ·exact go (.inr ⟨hb,.inr ⟨by rw [h1];exact mem_cons_self,h2,h3⟩⟩) h
      ·exact h.elim
    |false=>
     simp only [cond_false] at h
     exact go (.inl ⟨hb,rfl⟩) h
   ·exact h.elim
  |turn pe=>
   simp only [cF,and_eq_true,not_eq_true'] at hp
   obtain ⟨⟨⟨⟨hpe,hri⟩,hnF⟩,hrd⟩,hp⟩:=hp
   have hpe:=CN hpe
   subst hpe
   have hri:=cj.1 hri
   have hF:=gw hnF
   obtain ⟨hun,o,ho,_⟩:=mem_ready.1 hri
   simp only [dp,ho] at h
   replace h:=gz h
   split at h
   ·rename_i b hb
    cases hbx:dM P G ops flo V σ flo with
    |false=>rw [hbx] at h;exact h.elim
    |true=>
     rw [hbx] at h
     simp only [cond_true] at h
     have hnV:=gA hun
     have hle:T0.objs.length≤T.objs.length:=by
      have:=congrArg length inv.t0
      rw [length_take] at this;omega
     refine wait hbx (Array.getElem?_eq_some_iff.1 ho).1 (λhR=>hF (inv.rv i hR hnV)) λj hj hVj hFj n hlt hoff=> ?_
     have h1:=lK hrd (we inv hj hVj hFj)
     simp only [or_eq_true] at h1
     rcases h1 with h1 | h1
     ·have h1:=eq_of_beq_eq_true h1
      subst h1
      have ht0T:T.takeO T0.objs.length=⟨T0.objs,T.tails⟩:=by unfold VT.takeO;rw [inv.t0]
      refine tC st inv hG ho hj hri hF hb (ro:=ro) (X:=λσ' T'=>(∀k ok y,k∈pe→ops[k]?=some ok→cP ops (only ops ok σ) ok=some true→bu P ok.op (bt G (only ops ok σ))=none→bs P T0 ok.op (bt G (only ops ok σ))=some y→bs P (T'.takeO T0.objs.length) ok.op (bt G (only ops ok σ))=some y)∧dp P G F call rnd ro ops flo (V.setIfInBounds j true) (T'.takeO T0.objs.length) l σ' T' K)
       (λhbt=> ?_) (λhbf=> ?_) (pend':=pe) (λT'=>T'.takeO T0.objs.length) (λσ' T' w' g' hX fx e=> ?_) (λσ' T' k ok y hX h1 h2 _ h3 h4 h5=>⟨h1,hX.1 k ok y h1 h2 h3 h4 h5⟩) λσ' T' g' w' a' hX inv' e fx hd=>ihf n hlt l _ _ pe σ' T' _ g' w' a' prot hp hX.2 inv' (hG.mono e) (hd.trans hds) (hes.trans e) (hfx.trans hes fx) (by
        have:=fx.len
        simp only [VT.takeO,length_take];omega) hoff
      ·rw [hbt] at h
       simp only [cond_true] at h
       refine VPi.mono (oy hc hrr h) λs T' hk=> ?_
       obtain ⟨hsame,hk⟩:=Wd hk
       refine ⟨λk ok y hk hok hwk hpu hrd=> ?_,hk⟩
       rcases hsame with hsame | hsame
       ·exact Fd hsame hk hok hwk hpu hrd
       ·exact Fc hsame hk hok hwk hpu hrd
      ·rw [hbf] at h
       simp only [cond_false] at h
       exact ⟨λk ok y _ _ _ _ hrd=>m8 (T0:=T0) (T:=T.takeO T0.objs.length) (by rw [ht0T];simp) hrd,h⟩
      ·simp only [VT.takeO,length_take]
       rw [List.take_eq_take_iff]
       omega
     ·exact absurd (cj.1 h1) hFj
   ·exact h.elim
  |bar=>
   simp only [cF,and_eq_true,not_eq_true'] at hp
   obtain ⟨⟨⟨⟨hri,hnF⟩,hrd⟩,hanc⟩,hp⟩:=hp
   have hri:=cj.1 hri
   have hF:=gw hnF
   obtain ⟨hun,o,ho,_⟩:=mem_ready.1 hri
   simp only [dp,ho] at h
   replace h:=gz h
   split at h
   ·rename_i b hb
    cases hbx:dM P G ops flo V σ flo with
    |false=>rw [hbx] at h;exact h.elim
    |true=>
     rw [hbx] at h
     simp only [cond_true] at h
     have hnV:=gA hun
     have hle:T0.objs.length≤T.objs.length:=by
      have:=congrArg length inv.t0
      rw [length_take] at this;omega
     refine wait hbx (Array.getElem?_eq_some_iff.1 ho).1 (λhR=>hF (inv.rv i hR hnV)) λj hj hVj hFj n hlt hoff=> ?_
     have h1:=lK hrd (we inv hj hVj hFj)
     simp only [or_eq_true] at h1
     rcases h1 with h1 | h1
     ·have h1:=eq_of_beq_eq_true h1
      subst h1
      obtain ⟨_,oj,hoj,hdep⟩:=mem_ready.1 hj
      have hpe:∀k∈pend,On R k:=λk hk=>nZ inv.cr ops.size j k (all_eq_true.1 hanc k hk) λo' ho' e he hbb=>by
       rw [hoj] at ho';injection ho' with ho';subst ho';exact hdep e he hbb
      refine tC st inv hG ho hj hri hF hb (X:=λσ' T'=>dp P G F call rnd ro ops flo (V.setIfInBounds j true) T' l σ' T' K) (λhbt=>oy hc hrr (by rw [hbt] at h;exact h)) (λhbf=>by rw [hbf] at h;exact h) (pend':= []) (λT'=>T') (λσ' T' w' g' _ fx e=>by simp) (λ_ _ k ok y _ h1 _ h2 _ _ _=>absurd (hpe k h1) h2) λσ' T' g' w' a' hX inv' e fx hd=>ihf n hlt l _ T' [] σ' T' _ g' w' a' prot hp hX inv' (hG.mono e) (hd.trans hds) (hes.trans e) (hfx.trans hes fx) (le_trans (le_trans hro hle) fx.len) hoff
     ·exact absurd (cj.1 h1) hFj
   ·exact h.elim
  |put pe=>
   simp only [cF,and_eq_true,not_eq_true'] at hp
   obtain ⟨⟨⟨⟨hpe,hri⟩,hnF⟩,hrd⟩,hp⟩:=hp
   have hpe:=CN hpe
   subst hpe
   have hri:=cj.1 hri
   have hF:=gw hnF
   obtain ⟨hun,o,ho,_⟩:=mem_ready.1 hri
   simp only [dp,ho] at h
   replace h:=gz h
   split at h
   ·rename_i b hb
    cases hbx:dM P G ops flo V σ flo with
    |false=>rw [hbx] at h;exact h.elim
    |true=>
     rw [hbx] at h
     simp only [cond_true] at h
     have hnV:=gA hun
     have hle:T0.objs.length≤T.objs.length:=by
      have:=congrArg length inv.t0
      rw [length_take] at this;omega
     refine wait hbx (Array.getElem?_eq_some_iff.1 ho).1 (λhR=>hF (inv.rv i hR hnV)) λj hj hVj hFj n hlt hoff=> ?_
     have h1:=lK hrd (we inv hj hVj hFj)
     simp only [or_eq_true] at h1
     rcases h1 with h1 | h1
     ·have h1:=eq_of_beq_eq_true h1
      subst h1
      have ht0T:T.takeO T0.objs.length=⟨T0.objs,T.tails⟩:=by unfold VT.takeO;rw [inv.t0]
      refine tC st inv hG ho hj hri hF hb (ro:=ro) (X:=λσ' T'=>(T'.objs.length=T.objs.length∧∀k ok y,k∈pe→ops[k]?=some ok→cP ops (only ops ok σ) ok=some true→bu P ok.op (bt G (only ops ok σ))=none→bs P T0 ok.op (bt G (only ops ok σ))=some y→bs P (T'.takeO T0.objs.length) ok.op (bt G (only ops ok σ))=some y)∧dp P G F call rnd ro ops flo (V.setIfInBounds j true) (T'.takeO T0.objs.length) l σ' T' K)
       (λhbt=> ?_) (λhbf=> ?_) (pend':=pe) (λT'=>T'.takeO T0.objs.length) (λσ' T' w' g' hX fx e=> ?_) (λσ' T' k ok y hX h1 h2 _ h3 h4 h5=>⟨h1,hX.1.2 k ok y h1 h2 h3 h4 h5⟩) λσ' T' g' w' a' hX inv' e fx hd=>ihf n hlt l _ _ pe σ' T' _ g' w' a' prot hp hX.2 inv' (hG.mono e) (hd.trans hds) (hes.trans e) (hfx.trans hes fx) (by
        have:=hX.1.1
        simp only [VT.takeO,length_take];omega) hoff
      ·rw [hbt] at h
       simp only [cond_true] at h
       split at h
       ·rename_i t ad x hop
        split at h
        ·rename_i id off new had hnew
         split at h
         ·rename_i T1 hT1
          obtain ⟨hpa,h⟩:=xy h
          obtain ⟨hag,hlen⟩:=Jh hnew hT1
          refine VPi.of (by rw [hop];rfl) λg w ρ r hρ=> ?_
          have hax:=hρ ad
          rw [had] at hax
          obtain ⟨g',w',k1,k2,k3,k4,k5⟩:=LV (P:=P) r hT1 hax (hρ x)
          refine ⟨.skip,undef,g',w',.val undef,T1,?_,rfl,⟨⟨hlen,λk ok y hk hok hwk hpu hrd=> ?_⟩,h⟩,k2,k3,k4,k5⟩
          ·obtain ⟨dst,op,ty,pos,af,gd⟩:=o
           simp only at hop;subst hop
           simp [execOp,k1]
          ·have hap:=CO hpa hk hok hwk hpu
           have h6:bs P (T.takeO T0.objs.length) ok.op (bt G (only ops ok σ))=some y:=m8 (T0:=T0) (T:=T.takeO T0.objs.length) (by rw [ht0T];simp) hrd
           rw [←Hh (AgreeOut.take hag) hap];exact h6
         ·exact h.elim
        ·exact h.elim
       ·exact h.elim
      ·rw [hbf] at h
       simp only [cond_false] at h
       refine ⟨⟨rfl,λk ok y _ _ _ _ hrd=>m8 (T0:=T0) (T:=T.takeO T0.objs.length) (by rw [ht0T];simp) hrd⟩,h⟩
      ·simp only [VT.takeO,length_take,List.take_take,Nat.min_self]
       congr 1
       omega
     ·exact absurd (cj.1 h1) hFj
   ·exact h.elim
  |late=>
   simp only [cF,and_eq_true] at hp
   obtain ⟨⟨⟨hfl,hri⟩,hrd⟩,hp⟩:=hp
   have hri:=cj.1 hri
   obtain ⟨hun,o,ho,_⟩:=mem_ready.1 hri
   have hf:(i,none)∈flo:=by
    obtain ⟨q,hq,h1⟩:=any_eq_true.1 hfl
    simp only [and_eq_true] at h1
    obtain ⟨q1,q2⟩:=q
    have h2:=eq_of_beq_eq_true h1.1
    simp only at h2
    subst h2
    cases q2 with
    |none=>exact hq
    |some _=>cases h1.2
   simp only [dp,ho] at h
   split at h
   ·rename_i y T' hy
    cases hbx:dM P G ops flo V σ flo with
    |false=>rw [hbx] at h;exact h.elim
    |true=>
     rw [hbx] at h
     simp only [cond_true] at h
     have hnV:=gA hun
     by_cases hR:On R i
     ·obtain ⟨o',d,b,h1,h2,h3,blk,f,vo,mk,h4,h5,h6,h7⟩:=inv.flt i none hf hR hnV
      rw [ho] at h1;injection h1 with h1;subst h1
      have h8:=h5 T
      rw [hy] at h8;injection h8 with h8;injection h8 with h8 h9;subst h8 h9
      have hlt:=(Array.getElem?_eq_some_iff.1 ho).1
      obtain ⟨g',prot',inv',e⟩:=xu (V':=V.setIfInBounds i true) (y:=mk T.objs.length) st inv ho hf hri hR (λj hj=>by cases hj) (λk=>⟨λh=>by
        by_cases hik:i=k
        ·exact .inl (.inl hik.symm)
        ·exact .inr (bx hik h),λh=>by
        rcases h with (h | h) | h
        ·subst h;exact lm (by rw [inv.vs];exact hlt)
        ·cases h
        ·exact cW h⟩) (by simpa using inv.vs) (inv.cv.set hri) h3 h4.live (h4.or g w b h6) (λd' u hd' hu g' hg'=>by
        rw [h2] at hd';injection hd' with hd';subst hd'
        rw [h7 u hu]
        exact h4.vr g' w _ b hg' (inv.pr i b h3).2.2.2.2.2 h6)
      exact ih _ T0 pend _ _ R g' w a prot' hp h inv' (hG.mono e) hds (hes.trans e) (hfx.trans hes Fz) hro hfu
     ·refine wait hbx (Array.getElem?_eq_some_iff.1 ho).1 hR λj hj hVj hFj n hlt hoff=> ?_
      exact absurd (cj.1 (lK hrd (Ay inv hR hj hVj hFj))) hFj
   ·exact h.elim
  |box j=>
   simp only [cF,and_eq_true] at hp
   obtain ⟨⟨⟨⟨hfl,hri⟩,hdj⟩,hrd⟩,hp⟩:=hp
   have hri:=cj.1 hri
   obtain ⟨hun,o,ho,_⟩:=mem_ready.1 hri
   have hf:(i,some j)∈flo:=by
    obtain ⟨q,hq,h1⟩:=any_eq_true.1 hfl
    simp only [and_eq_true] at h1
    obtain ⟨q1,q2⟩:=q
    have h2:=eq_of_beq_eq_true h1.1
    simp only at h2
    subst h2
    cases q2 with
    |none=>cases h1.2
    |some j'=>
     have:=eq_of_beq_eq_true h1.2
     subst this;exact hq
   obtain ⟨o',ho',hlate,hbox⟩:=st.at hf
   rw [ho] at ho';injection ho' with ho';subst ho'
   obtain ⟨oj,hoj,hib,⟨e1,he1,hb1,hon1⟩,_⟩:=hbox j rfl
   simp only [dp,ho,hoj] at h
   split at h
   ·rename_i y T' hy
    cases hbx:dM P G ops flo V σ flo with
    |false=>rw [hbx] at h;exact h.elim
    |true=>
     rw [hbx] at h
     simp only [cond_true] at h
     have hnV:=gA hun
     have hlt:=(Array.getElem?_eq_some_iff.1 ho).1
     have hltj:=(Array.getElem?_eq_some_iff.1 hoj).1
     by_cases hR:On R i∧On R j
     ·obtain ⟨hR,hRj⟩:=hR
      obtain ⟨o',d,b,h1,h2,h3,oj',t,us,inf,h4,h5,h6,h7,h8,h9,h10⟩:=inv.flt i (some j) hf hR hnV
      rw [ho] at h1;injection h1 with h1;subst h1
      rw [hoj] at h4;injection h4 with h4;subst h4
      obtain ⟨new,k1,k2,k3⟩:=h10 hRj
      unfold I7 at hy
      rw [k1] at hy
      injection hy with hy;injection hy with hy1 hy2;subst hy1 hy2
      have hji:i<j:=by
       have:=(fM st.flow hoj).1 e1 he1 hb1
       omega
      obtain ⟨g',prot',inv',e⟩:=xu (V':=(V.setIfInBounds i true).setIfInBounds j true) (y:=.ptr T.objs.length 0) (vo:=.cells new) st inv ho hf hri hR (λj' hj'=>by injection hj' with hj';subst hj';exact hRj) (λk=>⟨λh=>by
        by_cases hjk:j=k
        ·exact .inl (.inr (by rw [hjk]))
        ·have h:=bx hjk h
         by_cases hik:i=k
         ·exact .inl (.inl hik.symm)
         ·exact .inr (bx hik h),λh=>by
        rcases h with (h | h) | h
        ·subst h;exact cW (lm (by rw [inv.vs];exact hlt))
        ·injection h with h;subst h;exact lm (by simp [inv.vs];exact hltj)
        ·exact cW (cW h)⟩) (by simpa using inv.vs) (by
        have hc1:=inv.cv.set hri
        intro k ok hk hon e he hb
        by_cases hjk:j=k
        ·subst hjk
         rw [hoj] at hk;injection hk with hk;subst hk
         refine cW ?_
         unfold qR at hdj
         rw [hoj] at hdj
         have:=all_eq_true.1 hdj e (mem_toList_iff.2 he)
         rw [hb] at this
         simpa only [Bool.not_true,Bool.false_or] using this
        ·exact cW (hc1 k ok hk (bx hjk hon) e he hb)) h3 rfl ⟨us,t,h5,k2,k3⟩ (λd' u hd' hu g' hg'=>by
        rw [h2] at hd';injection hd' with hd';subst hd'
        rw [h6 u hu]
        exact .ptr hg')
      exact ih _ T0 pend _ _ R g' w a prot' hp h inv' (hG.mono e) hds (hes.trans e) (hfx.trans hes Fz) hro hfu
     ·have hn:∃i0,i0<ops.size∧¬On R i0:=by
       by_cases h1:On R i
       ·exact ⟨j,hltj,λh2=>hR ⟨h1,h2⟩⟩
       ·exact ⟨i,hlt,h1⟩
      obtain ⟨i0,hi0,hn0⟩:=hn
      have hnj:¬On R j:=λh=>by
       have hRi:=inv.cr j oj hoj h e1 he1 hb1
       rw [hon1] at hRi
       exact hR ⟨hRi,h⟩
      refine wait hbx hi0 hn0 λj' hj hVj hFj n hlt hoff=> ?_
      exact absurd (cj.1 (lK hrd (Ay inv hnj hj hVj hFj))) hFj
   ·exact h.elim
theorem Jn {α:Type}{b:Bool}{x y:α}(h:cond b (some x) none=some y):b=true∧x=y:=by
 cases b with
 |false=>cases h
 |true=>injection h with h;exact ⟨rfl,h⟩
theorem VInv.start (hσ:VRs g w σ a.tmps.toList)(hr:RW g T w):VInv P G ops flo σ T T (replicate ops.size false) (replicate ops.size false) [] g w a.tmps.toList λ_=>none:=by
 have hoff:∀k,¬On (replicate ops.size false) k:=λk h=>by
  unfold On at h
  rw [Array.getD_eq_getD_getElem?,Array.getElem?_replicate] at h
  split at h<;>simp at h
 refine ⟨by simp,by simp,λk o _ hk=>absurd hk (hoff k),λk o _ hk=>absurd hk (hoff k),λk hk=>absurd hk (hoff k),λk _ hk=>absurd hk (hoff k),λi j _=>⟨λh=>absurd h (hoff i),λh=>absurd h (hoff j)⟩,⟨hσ.1,λs x u hs hu _=>hσ.2 s x u hs hu⟩,λk o _ hk=>absurd hk (hoff k),λi jo _ hk=>absurd hk (hoff i),λk b hk=>(by cases hk),λi j b h=>(by cases h),?_,take_length⟩
 refine hr.lessFr rfl rfl rfl λb hb=> ?_
 rcases hb with hb | ⟨k,hk⟩
 ·exact hb
 ·cases hk
theorem vK {p:List (Nat × FK)}(h:mA P ops=some p):noSelect ops=true∧VStat P ops (zf P ops)∧cF P ops (zf P ops) (cO (zf P ops)) p (replicate ops.size false) []=true:=by
 unfold mA tw Fx at h
 obtain ⟨hb,h⟩:=Jn h
 simp only [and_eq_true] at hb
 subst h
 obtain ⟨⟨⟨⟨⟨⟨h1,h2⟩,h3⟩,h4⟩,h5⟩,h6⟩,h7⟩:=hb
 exact ⟨h1,⟨h2,LU h2 h3,h4,h6⟩,fW h2 (Az h5) _ _ _ _ (MaskOk.zero _) h7⟩
end
section
variable {P:Program}{F:Fence}{n:Nat}{ops:Array Oper}
def CP (ops:Array Oper)(t:Oper):Prop:=(∀e∈t.after,binds .any e=true→e.on<ops.size)∧∀listed:Array Bool,Closed ops listed→(∀e∈t.after,binds .any e=true→listed.getD e.on false=true)→∀j,j<ops.size→listed.getD j false=true
theorem Hn {t:Oper}(h:uU ops t=true):t.guard.isNone=true:=by
 simp only [uU,and_eq_true] at h
 exact h.1.1
theorem Jo {t:Oper}(h:uU ops t=true):CP ops t:=by
 simp only [uU,and_eq_true] at h
 obtain ⟨⟨_,h1⟩,h2⟩:=h
 refine ⟨λe he hb=> ?_,λlisted hc hd j hj=> ?_⟩
 ·have:=all_eq_true.1 h1 e (mem_toList_iff.2 he)
  rw [hb] at this
  simpa [Nat.blt_eq] using this
 ·obtain ⟨e,he,h3⟩:=any_eq_true.1 (all_eq_true.1 h2 j (mem_range.2 hj))
  simp only [and_eq_true,or_eq_true] at h3
  obtain ⟨hb,h3⟩:=h3
  have hon:=hd e (mem_toList_iff.1 he) hb
  rcases h3 with h3 | h3
  ·rw [←eq_of_beq_eq_true h3];exact hon
  ·exact nZ hc ops.size e.on j h3 λo' ho' e' he' hb'=>hc e.on o' ho' hon e' he' hb'
theorem Closed.start (ops:Array Oper)(n:Nat):Closed ops (replicate n false):=λk o _ hk=>absurd hk (by
 rw [Array.getD_eq_getD_getElem?,Array.getElem?_replicate]
 split<;>simp)
theorem vL {t:Oper}(hf:gu ops=true)(ht:CP ops t){listed:Array Bool}(hsz:listed.size=ops.size)(hcl:Closed ops listed){i:Nat}(hi:i∈ready .any (ops.push t) (listed.push false)):
  (i<ops.size∧i∈ready .any ops listed)∨(i=ops.size∧∀j,j<ops.size→listed.getD j false=true):=by
 obtain ⟨hun,o,ho,hed⟩:=mem_ready.1 hi
 have hi':i<(ops.push t).size:=(Array.getElem?_eq_some_iff.1 ho).1
 rw [size_push] at hi'
 rw [getElem?_push] at ho
 by_cases h:i=ops.size
 ·right
  refine ⟨h,λj hj=> ?_⟩
  rw [if_pos h] at ho
  obtain rfl:t=o:=Option.some.inj ho
  refine ht.2 listed hcl (λe he hb=> ?_) j hj
  have h2:=hed e he hb
  have h3:=ht.1 e he hb
  rwa [fS _ _ (by omega)] at h2
 ·left
  rw [if_neg h] at ho
  have hlt':i<ops.size:=by omega
  refine ⟨hlt',mem_ready.2 ⟨by rw [fS _ _ (by omega)] at hun;exact hun,o,ho,λe he hb=> ?_⟩⟩
  have h1:=(fM hf ho).1 e he hb
  have h2:=hed e he hb
  rwa [fS _ _ (by omega)] at h2
theorem Jp {o:Oper}{a:Act}{w:World}{K:Act→World→Prop}{Q1 Q2:Act→World→Prop}(hh:o.wpIn F n P a w K (g6 Q1)):o.wpIn F n P a w K (g6 Q2):=by
 unfold Oper.wpIn at*
 refine ⟨hh.1,?_⟩
 have hh:=hh.2
 generalize (o.semAt F.round a.eval).run P w=r at*
 have hl:∀{Q:Act→World→Prop},LetsOut (g6 Q)→False:=λh=>by
  obtain ⟨a₀,w₀,h₀⟩:=h;exact h₀
 cases r with
 |ok x w'=>
  cases x<;>simp only [uponIn] at hh ⊢<;>
   first
    |exact hh
    |exact ⟨hh.1,CallsIn.mono hh.2 (λe w'' he=>by cases e<;>first | exact he | exact (hl he).elim)⟩
    |exact ⟨hh.1,RoundIn.mono hh.2 (λe w'' he=>by cases e<;>first | exact he | exact (hl he).elim)⟩
 |halt x w'=>cases x<;>simp only [uponIn] at hh ⊢<;>exact hh.elim
theorem Ho {t:Oper}(hf:gu ops=true)(ht:CP ops t){Q:Act→World→Prop}:
    ∀(fuel:Nat) (listed:Array Bool) (a:Act) (w:World),listed.size=ops.size→Closed ops listed→
      wpAnyIn F n P .any ops (g6 λa w=>wpOpIn F n P (ops.push t) (g6 Q) ops.size Q a w) fuel listed a w→
      wpAnyIn F n P .any (ops.push t) (g6 Q) (fuel+1) (listed.push false) a w:=by
  have hdone:∀(listed:Array Bool),listed.size=ops.size→(∀j,j<ops.size→listed.getD j false=true)→
      ready .any (ops.push t) ((listed.push false).setIfInBounds ops.size true)= []:=by
    intro listed hsz hall
    apply List.eq_nil_iff_forall_not_mem.2
    intro i hi
    obtain ⟨hun,o,ho,_⟩:=mem_ready.1 hi
    have hi':i<(ops.push t).size:=(Array.getElem?_eq_some_iff.1 ho).1
    rw [size_push] at hi'
    have:((listed.push false).setIfInBounds ops.size true).getD i true=true:=by
      by_cases h:i=ops.size
      · subst h
        simp
      · rw [getD_set_ne true (Ne.symm h),fS _ _ (by omega)]
        have h3:=hall i (by omega)
        have hb:i<listed.size:=by omega
        simp [hb] at h3 ⊢;exact h3
    rw [this] at hun
    cases hun
  have hlast:∀(fuel:Nat) (listed:Array Bool) (a:Act) (w:World),listed.size=ops.size→(∀j,j<ops.size→listed.getD j false=true)→
      wpOpIn F n P (ops.push t) (g6 Q) ops.size Q a w→wpOpIn F n P (ops.push t) (g6 Q) ops.size (wpAnyIn F n P .any (ops.push t) (g6 Q) fuel ((listed.push false).setIfInBounds ops.size true)) a w:=by
    intro fuel listed a w hsz hall h
    refine wpOpIn_mono (λa' w' hq=> ?_) h
    cases fuel with
    |zero=>exact ⟨hdone listed hsz hall,hq⟩
    |succ k=>exact ⟨λ_=>hq,λi hi=>by rw [hdone listed hsz hall] at hi;cases hi⟩
  have hnot:∀(listed:Array Bool),listed.size=ops.size→(∀j,j<ops.size→listed.getD j false=true)→ops.size∈ready .any (ops.push t) (listed.push false):=by
    intro listed hsz hall
    refine mem_ready.2 ⟨?_,t,by simp,λe he hb=> ?_⟩
    · simp [←hsz]
    · have h1:=ht.1 e he hb
      rw [fS _ _ (by omega)]
      exact hall e.on h1
  intro fuel
  induction fuel with
  |zero=>
    intro listed a w hsz hcl h
    have hall:=rH hf hsz h.1
    refine ⟨λh0=> ?_,λi hi=> ?_⟩
    · have:=hnot listed hsz hall
      rw [h0] at this;cases this
    · rcases vL hf ht hsz hcl hi with ⟨h1,h2⟩ | ⟨rfl,h2⟩
      · rw [h.1] at h2;cases h2
      · exact hlast 0 listed a w hsz hall h.2
  |succ fuel ih=>
    intro listed a w hsz hcl h
    refine ⟨λh0=> ?_,λi hi=> ?_⟩
    · have hr:ready .any ops listed= []:=by
        apply List.eq_nil_iff_forall_not_mem.2
        intro i hi
        have hi2:i∈ready .any (ops.push t) (listed.push false):=by
          obtain ⟨hun,o,ho,hed⟩:=mem_ready.1 hi
          have hlt:i<ops.size:=(Array.getElem?_eq_some_iff.1 ho).1
          refine mem_ready.2 ⟨by rw [fS _ _ (by omega)];exact hun,o,by rw [getElem?_push,if_neg (by omega)];exact ho,λe he hb=> ?_⟩
          have:=(fM hf ho).1 e he hb
          rw [fS _ _ (by omega)]
          exact hed e he hb
        rw [h0] at hi2;cases hi2
      have:=hnot listed hsz (rH hf hsz hr)
      rw [h0] at this;cases this
    · rcases vL hf ht hsz hcl hi with ⟨h1,h2⟩ | ⟨rfl,h2⟩
      · have h3:=h.2 i h2
        obtain ⟨_,o,ho,_⟩:=mem_ready.1 h2
        rw [Ln (by omega)]
        unfold wpOpIn at h3 ⊢
        rw [getElem?_push,if_neg (by omega)]
        simp only [ho] at h3 ⊢
        rw [E1 hf t ho]
        split at h3
        · rename_i hw
          rw [if_pos hw]
          exact Jp (Oper.wpIn_mono (λa' w' hq=>ih (listed.setIfInBounds i true) a' w' (by simpa using hsz) (hcl.set h2) hq) h3)
        · rename_i hw
          rw [if_neg hw]
          exact ⟨h3.1,ih (listed.setIfInBounds i true) _ w (by simpa using hsz) (hcl.set h2) h3.2⟩
      · have hr:ready .any ops listed= []:=by
          apply List.eq_nil_iff_forall_not_mem.2
          intro j hj
          obtain ⟨hun,o,ho,_⟩:=mem_ready.1 hj
          have hlt:j<ops.size:=(Array.getElem?_eq_some_iff.1 ho).1
          have h3:=h2 j hlt
          have hb:j<listed.size:=by omega
          simp [hb] at h3 hun
          rw [h3] at hun;cases hun
        exact hlast _ listed a w hsz h2 (h.1 hr)
theorem zk (n:Nat):replicate (n+1) false=(replicate n false).push false:=Array.replicate_succ
end
section
variable {P:Program}{G:aV}{F:ki}{ops:Array Oper}{r:Option Nat}{σ:List TV}{T T0:VT}{V R:Array Bool}{pend:List Nat}{g:Gh}{w:World}{a:Act}{prot:Nat→Option Nat}
end
section
variable {P:Program}{G:aV}{F:ki}
theorem Fix.of_min {ro:Nat}{g:Gh}{T T':VT}{w w':World}(h:Fix (min ro T.objs.length) g T w T' w'):Fix ro g T w T' w':=
 ⟨h.len,λi hi hl=>h.same i (by omega) hl,λi o b hi ho=>h.heap i o b (by have:=(List.getElem?_eq_some_iff.1 ho).1;omega) ho⟩
theorem CQ {ops:Array Oper}{p:List (Oper × PK)}(h:zg P ops=some p):my P ops=some p:=by
 unfold zg at h
 split at h
 ·rename_i q hq
  cases hb:(Hc q&&(mA P ops).isSome) with
  |true=>rw [hb] at h;cases h
  |false=>rw [hb] at h;rw [hq];exact h
 ·cases h
theorem CR {ops:Array Oper}{p:List (Oper × PK)}(h:zh P F ops=some p):my P ops=some p:=by
 unfold zh at h
 cases hb:(F ⟨some 999999,.move (.tmp 0),0, "",#[],none⟩ [] ⟨[],[]⟩).isSome with
 |true=>rw [hb] at h;exact h
 |false=>
  rw [hb,cond_false] at h
  cases hs:ble ops.size 12 with
  |true=>rw [hs] at h;exact CQ h
  |false=>rw [hs] at h;cases h
theorem LW {call:jP}{rnd:lI}(hc:jw P G call)(hrr:lk P G rnd)(hm:P.follows .mixedOrders=true){rd:Option Nat}{ro id:Nat}{ops:Array Oper}{σ:List TV}{T:VT}{D:List Nat}{Q:KX}
  (h:Hd P G F call rnd ro ops σ T λσ T=>Q .normal σ T D):VWx P G rd ro (.region id ops true) σ T D Q:=by
 intro r g w a rw0 hG hσ hd hD hrd
 unfold Hd at h
 cases hb:CC ops with
 |false=>rw [hb] at h;exact h.elim
 |true=>
  rw [hb] at h
  simp only [cond_true] at h
  have hnd:∀(j:Nat) o,ops[j]?=some o→di o.op=true:=λj o ho=>by
   obtain ⟨hlt,he⟩:=Array.getElem?_eq_some_iff.1 ho
   exact all_eq_true.1 hb o (by rw [←he];exact mem_toList_iff.2 (Array.getElem_mem hlt))
  have old:∀p,my P ops=some p→ft P G F call rnd ro ops T false p σ T (λσ T=>Q .normal σ T D)→(Code.region id ops true).wpIn (dH r) 0 P (λe a' w'=>∃g' σ' T' D',Q e σ' T' D'∧Evo g w g' w'∧RW g' T' w'∧VRs g' w' σ' a'.tmps.toList∧a'.defers=D'.map (mk g')∧(∀id∈D',(g'.obj id).isSome=true)∧Fix ro g T w T' w') a w:=λp hp h=>by
   unfold my at hp
   split at hp
   ·rename_i pl hpl
    cases hk:(noSelect ops&&beq pl.length ops.size&&ov ops pl (replicate ops.size false)) with
    |false=>rw [hk] at hp;cases hp
    |true=>
     rw [hk] at hp
     simp only [and_eq_true] at hk
     obtain ⟨⟨hns,hlen⟩,hchk⟩:=hk
     have hlen:=eq_of_beq_eq_true hlen
     injection hp with hp;subst hp
     have e0:=Evo.of_gr rw0 (Gr.refl w).drew
     have f0:Fix (min ro T.objs.length) g T w T w.drew:=Fix.of_same (Same.of_gr rw0 (Gr.refl w).drew) take_length
     have r1:RW g T w.drew:=rw0.drew
     have key:=iz (r:=r) hc hrr hnd (Region.noSelect_spec hns) (Nat.min_le_left ro T.objs.length) (K:=λσ T=>Q .normal σ T D) (gs:=g) (Ts:=T) (ws:=w) (ds:=a.defers)
      (QQ:=λa' w'=>∃g' σ' T' D',Q .normal σ' T' D'∧Evo g w g' w'∧RW g' T' w'∧VRs g' w' σ' a'.tmps.toList∧a'.defers=D'.map (mk g')∧(∀id∈D',(g'.obj id).isSome=true)∧Fix ro g T w T' w')
      (λσ' T' g' w' a' hk e r' hσ' hd' hx=>⟨g',σ',T',D,hk,e,r',hσ',by rw [hd',hd,oL e hD],iy e hD,hx.of_min⟩)
      pl (replicate ops.size false) T false σ T hchk h g w.drew g w.drew a r1 (hG.mono e0) r1 (hσ.mono e0) rfl (Evo.refl _ _) (Same.refl _ _ _) take_length (λ_=>⟨rfl,rfl,rfl⟩) e0 f0 (Nat.min_le_right _ _)
      (λk o _ hk=>absurd hk (by
       rw [Array.getD_eq_getD_getElem?,Array.getElem?_replicate]
       split<;>simp)) (by simp)
     rw [hlen] at key
     refine wpIn_mono (wpIn_region_any hm (xh _ _ _ _ key)) ?_
     intro e a' w' hq
     cases e<;>first | exact hq | exact hq.elim
   ·cases hp
  split at h
  ·rename_i p hp
   exact old p (CR hp) h
  ·split at h
   ·rename_i p hp
    obtain ⟨hns,st,hchk⟩:=vK hp
    have e0:=Evo.of_gr rw0 (Gr.refl w).drew
    have f0:Fix (min ro T.objs.length) g T w T w.drew:=Fix.of_same (Same.of_gr rw0 (Gr.refl w).drew) take_length
    have r1:RW g T w.drew:=rw0.drew
    have key:=AB (r:=r) hc hrr st (K:=λσ T=>Q .normal σ T D) (gs:=g) (Ts:=T) (ws:=w) (ds:=a.defers)
     (QQ:=λa' w'=>∃g' σ' T' D',Q .normal σ' T' D'∧Evo g w g' w'∧RW g' T' w'∧VRs g' w' σ' a'.tmps.toList∧a'.defers=D'.map (mk g')∧(∀id∈D',(g'.obj id).isSome=true)∧Fix ro g T w T' w')
     (λσ' T' g' w' a' hk e r' hσ' hd' hx=>⟨g',σ',T',D,hk,e,r',hσ',by rw [hd',hd,oL e hD],iy e hD,hx.of_min⟩)
     ops.size p (replicate ops.size false) T [] σ T (replicate ops.size false) g w.drew a (λ_=>none) hchk h (VInv.start (hσ.mono e0) r1) (hG.mono e0) rfl e0 f0 (Nat.min_le_right _ _) (by
      unfold oR
      rw [Array.toList_replicate]
      exact le_trans List.count_le_length (by simp))
    refine wpIn_mono (wpIn_region_any hm key) ?_
    intro e a' w' hq
    cases e<;>first | exact hq | exact hq.elim
   ·split at h
    ·rename_i p hp
     exact old p hp h
    ·split at h
     ·rename_i t p hl hp
      obtain ⟨ys,hys⟩:=List.getLast?_eq_some_iff.1 hl
      obtain rfl:ops=ys.toArray.push t:=by
       have:=congrArg List.toArray hys
       simpa using this
      have hcut:(ys.toArray.push t).toList.dropLast.toArray=ys.toArray:=by simp
      rw [hcut] at hp h
      cases hb2:uU ys.toArray t with
      |false=>rw [hb2] at h;exact h.elim
      |true=>
       rw [hb2] at h
       simp only [cond_true] at h
       have hgd:=Hn hb2
       obtain ⟨hns,st,hchk⟩:=vK hp
       have e0:=Evo.of_gr rw0 (Gr.refl w).drew
       have f0:Fix (min ro T.objs.length) g T w T w.drew:=Fix.of_same (Same.of_gr rw0 (Gr.refl w).drew) take_length
       have r1:RW g T w.drew:=rw0.drew
       have key:=AB (r:=r) hc hrr st (K:=λσ' T'=>rU P G F call rnd (min ro T.objs.length) t σ' T' λσ T=>Q .normal σ T D) (gs:=g) (Ts:=T) (ws:=w) (ds:=a.defers)
        (QQ:=λa' w'=>wpOpIn (dH r) 0 P (ys.toArray.push t) (g6 λa' w'=>∃g' σ' T' D',Q .normal σ' T' D'∧Evo g w g' w'∧RW g' T' w'∧VRs g' w' σ' a'.tmps.toList∧a'.defers=D'.map (mk g')∧(∀id∈D',(g'.obj id).isSome=true)∧Fix ro g T w T' w') ys.toArray.size
         (λa' w'=>∃g' σ' T' D',Q .normal σ' T' D'∧Evo g w g' w'∧RW g' T' w'∧VRs g' w' σ' a'.tmps.toList∧a'.defers=D'.map (mk g')∧(∀id∈D',(g'.obj id).isSome=true)∧Fix ro g T w T' w') a' w')
        (λσ' T' g' w' a' hk e r' hσ' hd' hx=>by
         unfold wpOpIn
         have hw:wanted t (yielded (ys.toArray.push t) a'.tmps)=true:=by
          unfold wanted
          rw [Option.isNone_iff_eq_none.1 hgd]
         simp only [getElem?_push,if_true,hw]
         exact oy hc hrr hk r g' w' a' _ _ r' (hG.mono e) hσ' λσ'' T'' g'' w'' a'' _ hk' e' r'' hσ'' hd'' hx'=>⟨g'',σ'',T'',D,hk',e.trans e',r'',hσ'',by rw [hd'',hd',hd,oL (e.trans e') hD],iy (e.trans e') hD,(hx.trans e hx').of_min⟩)
        ys.toArray.size p (replicate ys.toArray.size false) T [] σ T (replicate ys.toArray.size false) g w.drew a (λ_=>none) hchk h (VInv.start (hσ.mono e0) r1) (hG.mono e0) rfl e0 f0 (Nat.min_le_right _ _) (by
         unfold oR
         rw [Array.toList_replicate]
         exact le_trans List.count_le_length (by simp))
       have key2:=Ho st.flow (Jo hb2) _ _ _ _ (by simp) (Closed.start _ _) key
       refine wpIn_mono (wpIn_region_any hm (by rw [size_push,zk];exact key2)) ?_
       intro e a' w' hq
       cases e<;>first | exact hq | exact hq.elim
     ·exact h.elim
theorem VWx.here {rd:Option Nat}{ro:Nat}{c:Code}{σ:List TV}{T:VT}{D:List Nat}{Q:KX}{e:Exit}(h:Q e σ T D)(k:∀(F:Fence) (a:Act) w,∀R:Exit→Act→World→Prop,R e a w→c.wpIn F 0 P R a w):VWx P G rd ro c σ T D Q:=
 λr g w a rw0 hG hσ hd hD _=>k _ a w _ ⟨g,σ,T,D,h,Evo.refl g w,rw0,hσ,hd,hD,Fix.refl _ _ _ _⟩
theorem VWx.seq {rd:Option Nat}{ro:Nat}{x y:Code}{σ:List TV}{T:VT}{D:List Nat}{Q:KX}(h:VWx P G rd ro x σ T D (rX (λσ T D=>VWx P G rd ro y σ T D Q) Q)):VWx P G rd ro (.seq x y) σ T D Q:=by
 intro r g w a rw0 hG hσ hd hD hrd
 refine wpIn_seq (wpIn_mono (h r g w a rw0 hG hσ hd hD hrd) ?_)
 rintro e a' w' ⟨g',σ',T',D',hq,e1,r',hσ',hd',hD',hx⟩
 cases e<;>first
  |exact ⟨g',σ',T',D',hq,e1,r',hσ',hd',hD',hx⟩
  |exact wpIn_mono (hq r g' w' a' r' (hG.mono e1) hσ' hd' hD' (Cx e1 hrd)) λe a'' w'' ⟨g'',σ'',T'',D'',hq',e2,r2,s2,d2,dd2,x2⟩=>⟨g'',σ'',T'',D'',hq',e1.trans e2,r2,s2,d2,dd2,hx.trans e1 x2⟩
theorem VWx.block {rd:Option Nat}{ro id:Nat}{c:Code}{σ:List TV}{T:VT}{D:List Nat}{Q:KX}(h:VWx P G rd ro c σ T D (tz id Q)):VWx P G rd ro (.block id c) σ T D Q:=by
 intro r g w a rw0 hG hσ hd hD hrd
 refine wpIn_block (wpIn_mono (h r g w a rw0 hG hσ hd hD hrd) ?_)
 rintro e a' w' ⟨g',σ',T',D',hq,h⟩
 cases e with
 |exit id'=>
  simp only [Exit.inBlock]
  simp only [tz] at hq
  cases hb:beq id' id with
  |true=>
   rw [hb] at hq
   rw [if_pos (eq_of_beq_eq_true hb)];exact ⟨g',σ',T',D',hq,h⟩
  |false=>
   rw [hb] at hq
   rw [if_neg (Nat.ne_of_beq_eq_false hb)];exact ⟨g',σ',T',D',hq,h⟩
 |normal=>exact ⟨g',σ',T',D',hq,h⟩
 |goto l=>exact ⟨g',σ',T',D',hq,h⟩
 |ret=>exact ⟨g',σ',T',D',hq,h⟩
 |panic ch=>exact ⟨g',σ',T',D',hq,h⟩
 |outgrown=>exact ⟨g',σ',T',D',hq,h⟩
theorem VWx.cond {rd:Option Nat}{ro:Nat}{c:Operand}{x y:Code}{σ:List TV}{T:VT}{D:List Nat}{Q:KX}{b:Bool}(hc:bt G σ c=.val (.bool b))(ht:b=true→VWx P G rd ro x σ T D Q)(hf:b=false→VWx P G rd ro y σ T D Q):VWx P G rd ro (.cond c x y) σ T D Q:=by
 intro r g w a rw0 hG hσ hd hD hrd
 have h1:=fC hG hσ c
 rw [hc] at h1
 exact wpIn_cond_split h1.val_inv (λh=>ht h r g w a rw0 hG hσ hd hD hrd) (λh=>hf h r g w a rw0 hG hσ hd hD hrd)
section
variable {b:Frame}{a:Act}{k:List Item}{cs:List Frame}{w:World}
theorem iY {c:Code}:step P (lone (b.atR a (.code (.scope c)::k)) cs w)=.next (lone (b.atR a (.code c:: .inScope c::k)) cs w):=
 step_lone_go (by simp [stepG,stepG.exec,atR])
theorem Bo {c:Code}:step P (lone (b.atR a (.inScope c::k)) cs w)=.next (lone (b.atR a k) cs w):=
 step_lone_go (by simp [stepG,stepG.exec,atR])
end
def Sd (Q:Exit→Act→World→Prop):Exit→Act→World→Prop
 | .goto _,_,_=>False
 |e,a,w=>Q e a w
theorem s4 {F:Fence}{n:Nat}{Q:Exit→Act→World→Prop}{a:Act}{w:World}{c:Code}(h:c.wpIn F n P (Sd Q) a w):(Code.scope c).wpIn F n P Q a w:=by
 intro b k cs hro hb hr
 have h0:(lone (b.atR a (.code (.scope c)::k)) cs w).fenced P F:=fenced_calm hb hr rfl
 obtain ⟨e,a₁,w₁,hq,harr⟩:=h b (.inScope c::k) cs hro hb hr
 cases e with
 |normal=>exact ⟨.normal,a₁,w₁,hq,.head h0 iY (StepsIn.trans harr (.one (fenced_calm hb hr rfl) Bo))⟩
 |exit id=>
  have hx:exitTo id (.inScope c::k)=exitTo id k:=by simp [exitTo]
  exact ⟨.exit id,a₁,w₁,hq,λk' hk=>.head h0 iY (harr.1 k' (by rw [hx];exact hk)),
   λhr' hk=>let ⟨k₁,h1,h2⟩:=harr.2 hr' (by rw [hx];exact hk);⟨k₁,h1,.head h0 iY h2⟩⟩
 |goto l=>exact hq.elim
 |ret=>exact ⟨_,a₁,w₁,hq,.of_steps (.one h0 iY) harr⟩
 |panic ch=>exact ⟨_,a₁,w₁,hq,.of_steps (.one h0 iY) harr⟩
 |outgrown=>exact ⟨_,a₁,w₁,hq,.of_steps (.one h0 iY) harr⟩
theorem VWx.scope {rd:Option Nat}{ro:Nat}{c:Code}{σ:List TV}{T:VT}{D:List Nat}{Q:KX}(h:VWx P G rd ro c σ T D (Ja Q)):VWx P G rd ro (.scope c) σ T D Q:=by
 intro r g w a rw0 hG hσ hd hD hrd
 refine s4 (wpIn_mono (h r g w a rw0 hG hσ hd hD hrd) ?_)
 rintro e a' w' ⟨g',σ',T',D',hq,h⟩
 cases e<;>first
  |exact ⟨g',σ',T',D',hq,h⟩
  |exact hq.elim
theorem VWx.loop {rd:Option Nat}{ro:Nat}{c:Code}{σ:List TV}{T:VT}{D:List Nat}{Q:KX}(I:Nat→List TV→VT→List Nat→Prop)(n:Nat)(h0:I n σ T D)
  (round:∀n σ T D,I n σ T D→VWx P G rd ro c σ T D (rX (λσ' T' D'=>∃n',n' <n∧I n' σ' T' D') Q)):VWx P G rd ro (.loop c) σ T D Q:=by
 intro r g w a rw0 hG hσ hd hD hrd
 refine wpIn_loop_ghost (λn a' w'=>∃g' σ' T' D',I n σ' T' D'∧Evo g w g' w'∧RW g' T' w'∧VRs g' w' σ' a'.tmps.toList∧a'.defers=D'.map (mk g')∧(∀id∈D',(g'.obj id).isSome=true)∧Fix ro g T w T' w') n ⟨g,σ,T,D,h0,Evo.refl _ _,rw0,hσ,hd,hD,Fix.refl _ _ _ _⟩ ?_
 rintro m a' w' ⟨g',σ',T',D',hI,e1,r',hσ',hd',hD',hx⟩
 refine wpIn_mono (round m σ' T' D' hI r g' w' a' r' (hG.mono e1) hσ' hd' hD' (Cx e1 hrd)) ?_
 rintro e a'' w'' ⟨g'',σ'',T'',D'',hq,e2,r2,s2,d2,dd2,x2⟩
 cases e<;>first
  |exact ⟨g'',σ'',T'',D'',hq,e1.trans e2,r2,s2,d2,dd2,hx.trans e1 x2⟩
  | (obtain ⟨n',hn,hI'⟩:=hq;exact ⟨n',hn,g'',σ'',T'',D'',hI',e1.trans e2,r2,s2,d2,dd2,hx.trans e1 x2⟩)
theorem lL {g:Gh}{T:VT}{w:World}(r:RW g T w){id b:Nat}{st:LoopState}{pend:Option Code}{σ:List TV}{ps:Array Tmp}{asg body:Code}(ho:T.objs[id]?=some (.loop st pend σ ps asg body))(hb:g.obj id=some b):
  ∃rec:Loop,w.heap[b]?=some (.loop rec)∧rec.state=st∧rec.pending=pend∧rec.params=ps∧rec.assign=asg∧rec.body=body∧VRs g w σ rec.tmps.toList∧
   ∀st' pend',RW g (T.setLoop id st' pend' σ ps asg body) (w.putObj b (.loop {rec with state:=st',pending:=pend' }))∧Evo g w g (w.putObj b (.loop {rec with state:=st',pending:=pend' }))∧
    ∀ro,ro≤id→Fix ro g T w (T.setLoop id st' pend' σ ps asg body) (w.putObj b (.loop {rec with state:=st',pending:=pend' })):=by
 obtain ⟨b',h1,h2,h3,h4⟩:=r.obj id _ ho rfl
 rw [hb] at h1;injection h1 with h1;subst h1
 obtain ⟨us,fn,db,h5,h6⟩:=h2
 have hlt:=(Array.getElem?_eq_some_iff.1 h5).1
 refine ⟨_,h5,rfl,rfl,rfl,rfl,rfl,h6,λst' pend'=> ?_⟩
 have hnew:=World.putObj_heap_same (w:=w) (o:=.loop {state:=st',pending:=pend',fn:=fn,tmps:=us.toArray,params:=ps,assign:=asg,body:=body,defers:=db}) hlt
 have hoth:∀c,c≠b→(w.putObj b (.loop {state:=st',pending:=pend',fn:=fn,tmps:=us.toArray,params:=ps,assign:=asg,body:=body,defers:=db})).heap[c]?=w.heap[c]?:=λc hc=>World.putObj_heap_other hc
 have key:∀(hE:∀w',w'=w.putObj b (.loop {state:=st',pending:=pend',fn:=fn,tmps:=us.toArray,params:=ps,assign:=asg,body:=body,defers:=db})→Evo g w g w'),RW g (T.setLoop id st' pend' σ ps asg body) (w.putObj b (.loop {state:=st',pending:=pend',fn:=fn,tmps:=us.toArray,params:=ps,assign:=asg,body:=body,defers:=db}))∧Evo g w g (w.putObj b (.loop {state:=st',pending:=pend',fn:=fn,tmps:=us.toArray,params:=ps,assign:=asg,body:=body,defers:=db})):=λhE=>
  r.setObj (o':=.loop st' pend' σ ps asg body) ho rfl hb ⟨rfl,rfl,rfl⟩ putObj_size hoth (by unfold cf;rw [hnew,h5]) λ_=>⟨us,fn,db,hnew,h6.mono (hE _ rfl)⟩
 have hE:=(r.setObj (o':=.gone) ho rfl hb (w':=w.putObj b (.loop {state:=st',pending:=pend',fn:=fn,tmps:=us.toArray,params:=ps,assign:=asg,body:=body,defers:=db})) ⟨rfl,rfl,rfl⟩ putObj_size hoth (by unfold cf;rw [hnew,h5]) λh=>by cases h).2
 obtain ⟨k1,k2⟩:=key λw' hw=>by rw [hw];exact hE
 exact ⟨k1,k2,λro hr=>jL r ho rfl hb hr hoth⟩
theorem tG {fn:Func}{ro:Nat}{σ:List TV}{K:TV→VT→Prop}{tmps:Array Value}{g0:Gh}{T0:VT}{w0:World}:∀(D:List Nat) (T T':VT) (g:Gh) (w:World) (x:TV),qU ro D T=some T'→oI P T' σ fn.results=some x→K x T'→
  RW g T w→VRs g w σ tmps.toList→Evo g0 w0 g w→Fix ro g0 T0 w0 T w→
  LeavesInM (dH none) 0 P fn tmps (λe w'=>∃v x g' T',e=.returned v∧K x T'∧Evo g0 w0 g' w'∧RW g' T' w'∧VR g' w' x v∧Fix ro g0 T0 w0 T' w') (D.map (mk g)) .returning w
 |[],T,T',g,w,x,h,hr,hk,r,hσ,e,hx=>by
  simp only [qU] at h
  injection h with h;subst h
  obtain ⟨v,h1,h2⟩:=E3 (a:={tmps:=tmps,defers:= []}) r hσ hr
  exact ⟨v,h2,v,x,g,T,rfl,hk,e,r,h1,hx⟩
 |id::D,T,T',g,w,x,h,hr,hk,r,hσ,e,hx=>by
  simp only [qU] at h
  split at h
  ·rename_i ho
   cases hb:ble ro id with
   |false=>rw [hb] at h;cases h
   |true=>
    rw [hb] at h
    simp only [cond_true] at h
    obtain ⟨b,h1,h2,h3,h4⟩:=r.obj id _ ho rfl
    have hlt:=(Array.getElem?_eq_some_iff.1 h2).1
    have hnew:=World.putObj_heap_same (w:=w) (o:=.deferred none) hlt
    have hoth:∀c,c≠b→(w.putObj b (.deferred none)).heap[c]?=w.heap[c]?:=λc hc=>World.putObj_heap_other hc
    obtain ⟨k1,k2⟩:=r.setObj (o':=.gone) ho rfl h1 (w':=w.putObj b (.deferred none)) ⟨rfl,rfl,rfl⟩ putObj_size hoth (by unfold cf;rw [hnew,show w.heap[b]?=_ from h2]) λh=>by cases h
    have k3:Fix ro g T w (T.kill id) (w.putObj b (.deferred none)):=jL r ho rfl h1 (le_of_ble_eq_true hb) hoth
    refine ⟨λh=>(by cases h),.inl ⟨b,w.putObj b (.deferred none),by simp [mk,h1],run_takeDeferred h2,?_⟩⟩
    exact tG D (T.kill id) T' g _ x h hr hk k1 (hσ.mono k2) (e.trans k2) (hx.trans e k3)
  ·cases h
theorem AC {fn:Func}{ro:Nat}{K:TV→VT→Prop}{σ:List TV}{T:VT}{D:List Nat}(h:xq P fn ro σ T D K):∃T' x,qU ro D T=some T'∧oI P T' σ fn.results=some x∧K x T':=by
 unfold xq at h
 split at h
 ·rename_i T' hT
  split at h
  ·rename_i x hx;exact ⟨T',x,hT,hx,h⟩
  ·exact h.elim
 ·exact h.elim
theorem VCx.enter {ro:Nat}{f:FuncId}{fn:Func}{c:Code}{xs:List TV}{T:VT}{K:TV→VT→Prop}(hf:P.funcs[f]?=some fn)(hb:fn.body=some c)
  (h:VWx P G none ro c (xr fn xs) T [] (Bz P fn ro K)):VCx P G ro f xs T K:=by
 intro g w us rw0 hG hx
 refine Cw (r:=none) (n:=0) (callsIn_of_wp_marks hf hb trivial (wpIn_mono (h none g w _ rw0 hG ?_ rfl (λ_ h=>nomatch h) rfl) ?_))
 ·have e1:(us.toArray++replicate (fn.ntmps-us.toArray.size) undef).toList=us++(List.replicate (fn.ntmps-xs.length) undef):=by simp [hx.1]
  rw [e1]
  refine hx.app ?_
  have:=VRs.vals g w (List.replicate (fn.ntmps-xs.length) undef)
  simpa using this
 ·rintro e a' w' ⟨g',σ',T',D',hq,e1,r',hσ',hd',hD',hx'⟩
  cases e with
  |normal=>
   obtain ⟨T'',x,h1,h2,h3⟩:=AC (P:=P) hq
   simp only [bodyPostM,hd']
   exact tG D' T' T'' g' w' x h1 h2 h3 r' hσ' e1 hx'
  |ret=>
   obtain ⟨T'',x,h1,h2,h3⟩:=AC (P:=P) hq
   simp only [bodyPostM,hd']
   exact tG D' T' T'' g' w' x h1 h2 h3 r' hσ' e1 hx'
  |exit id=>exact hq.elim
  |goto l=>exact hq.elim
  |panic ch=>exact hq.elim
  |outgrown=>exact hq.elim
def Hp (P:Program)(G:aV)(run:zi):Prop:=∀rd ro c σ T D K,run rd ro c σ T D K→VWx P G rd ro c σ T D K
theorem xz {g:Gh}{w:World}:∀(ps:List Tmp) (xs σ:List TV) (us tmps:List Value),VRs g w xs us→VRs g w σ tmps→VRs g w (ox ps xs σ) ((ps.zip us).foldl (λt p=>t.set p.1 p.2) tmps)
 |[],xs,σ,us,tmps,hx,hσ=>by simpa [ox] using hσ
 |p::ps,[],σ,us,tmps,hx,hσ=>by
  have:us= []:=List.eq_nil_of_length_eq_zero hx.1
  subst this
  simpa [ox] using hσ
 |p::ps,x::xs,σ,[],tmps,hx,hσ=>by have:=hx.1;simp at this
 |p::ps,x::xs,σ,u::us,tmps,hx,hσ=>by
  simp only [ox,List.zip_cons_cons,List.foldl_cons]
  exact xz ps xs _ us _ ⟨by simpa using hx.1,λj y v hy hv=>hx.2 (j+1) y v (by simpa using hy) (by simpa using hv)⟩ (hσ.set p (hx.2 0 x u rfl rfl))
theorem Fe (ps:Array Tmp)(us:List Value)(tmps:Array Value):((ps.zip us.toArray).foldl (λtmps (t,a)=>tmps.setIfInBounds t a) tmps).toList=(ps.toList.zip us).foldl (λt p=>t.set p.1 p.2) tmps.toList:=by
 rw [←Array.foldl_toList]
 simp only [Array.toList_zip]
 generalize ps.toList.zip us=l
 induction l generalizing tmps with
 |nil=>rfl
 |cons p l ih=>simp only [List.foldl_cons];rw [ih];simp
theorem CS {ro id:Nat}{st:LoopState}{pend:Option Code}{T:VT}{K:VT→Prop}(h:lh ro id st pend T K):∃st0 pend0 σ ps asg body,T.objs[id]?=some (.loop st0 pend0 σ ps asg body)∧ro≤id∧K (T.setLoop id st pend σ ps asg body):=by
 unfold lh at h
 split at h
 ·rename_i st0 pend0 σ ps asg body ho
  cases hb:ble ro id with
  |false=>rw [hb] at h;exact h.elim
  |true=>rw [hb] at h;exact ⟨_,_,_,_,_,_,ho,le_of_ble_eq_true hb,h⟩
 ·exact h.elim
theorem AD {run:zi}(hrun:Hp P G run):lk P G (qV run):=by
 intro ro id xs T K h g w us rw0 hG hxs
 unfold qV at h
 split at h
 ·rename_i σ ps asg body ho
  cases hb:(ble ro id&&beq ps.size xs.length) with
  |false=>rw [hb] at h;exact h.elim
  |true=>
   rw [hb] at h
   simp only [and_eq_true] at hb
   obtain ⟨hro,hsz⟩:=hb
   have hro:=le_of_ble_eq_true hro
   have hsz:=eq_of_beq_eq_true hsz
   simp only [cond_true] at h
   obtain ⟨b,hgb,_⟩:=rw0.obj id _ ho rfl
   obtain ⟨rec,h1,h2,h3,h4,h5,h6,h7,_⟩:=lL rw0 ho hgb
   refine ⟨b,_,_,_,_,hgb,run_yield h1 (by rw [h4];simpa [hxs.1] using hsz.symm),?_⟩
   rw [h4,h5,h6]
   refine roundIn_of_wpIn (F:=Fence.wide) trivial ?_
   refine wpIn_mono (hrun _ _ _ _ _ _ _ h (some b) g w {tmps:=_,defers:= []} rw0 hG ?_ rfl (λ_ h=>nomatch h) ⟨rfl,hgb⟩) ?_
   ·simp only
    rw [Fe]
    exact xz _ _ _ _ _ hxs h7
   ·rintro e a' w' ⟨g',σ',T',D',hq,e1,r',hσ',hd',hD',hx'⟩
    cases e with
    |normal=>
     simp only at hq
     split at hq
     ·rename_i σ2 ps2 asg2 body2 ho2
      have hgb':=e1.obj id b hgb
      obtain ⟨rec2,k1,k2,k3,k4,k5,k6,k7,k8⟩:=lL r' ho2 hgb'
      obtain ⟨m1,m2,m3⟩:=k8 .busy none
      have hrec:({rec2 with state:=.busy}:Loop)={rec2 with state:=.busy,pending:=none}:=by
       rw [←k3]
      refine ⟨_,run_beginRound k1 k2,?_⟩
      rw [hrec]
      refine wpIn_mono (hrun _ _ _ _ _ _ _ hq (some b) g' _ a' m1 ((hG.mono e1).mono m2) (hσ'.mono m2) hd' hD' ⟨rfl,hgb'⟩) ?_
      have fx:=hx'.trans e1 (m3 ro hro)
      rintro e a2 w2 ⟨g2,σ2',T2,D2,hq2,e2,r2,hσ2,hd2,hD2,hx2⟩
      have hgb2:=e2.obj id b hgb'
      have ee:=(e1.trans m2).trans e2
      have ff:=fx.trans (e1.trans m2) hx2
      have fin:∀(st:LoopState) (pend:Option Code) (y:TV) (v:Value) (vd:VR g2 w2 y v),lh ro id st pend T2 (λT=>K y T)→st=(if pend.isNone then .ready else .done)→v=.bool pend.isNone→
        ∃v' w',(Instr.endRound b pend).run P w2=.ok v' w'∧∃v x g' T',(Ending.returned v'=.returned v)∧K x T'∧Evo g w g' w'∧RW g' T' w'∧VR g' w' x v∧Fix ro g T w T' w':=by
       intro st pend y v vd hv hst hvv
       obtain ⟨st0,pend0,σ3,ps3,asg3,body3,n1,n2,n3⟩:=CS hv
       obtain ⟨rec3,p1,p2,p3,p4,p5,p6,p7,p8⟩:=lL r2 n1 hgb2
       obtain ⟨q1,q2,q3⟩:=p8 st pend
       refine ⟨_,_,run_endRound pend p1,v,y,g2,_,by rw [hvv],n3,?_⟩
       rw [←hst]
       exact ⟨ee.trans q2,q1,vd.mono q2,ff.trans ee (q3 ro hro)⟩
      cases e with
      |normal=>exact fin .ready none _ _ (.val (.bool true)) hq2 rfl rfl
      |ret=>exact fin .done (some .ret) _ _ (.val (.bool false)) hq2 rfl rfl
      |exit i=>exact fin .done (some (.exit i)) _ _ (.val (.bool false)) hq2 rfl rfl
      |goto l=>exact hq2.elim
      |panic ch=>exact hq2.elim
      |outgrown=>exact hq2.elim
     ·exact hq.elim
    |ret=>exact hq.elim
    |exit i=>exact hq.elim
    |goto l=>exact hq.elim
    |panic ch=>exact hq.elim
    |outgrown=>exact hq.elim
 ·exact h.elim
theorem CT {ro id:Nat}{σ:List TV}{D:List Nat}{K:KX}{T:VT}(h:jv ro id σ D K T):∃st pend σ' ps asg body e,T.objs[id]?=some (.loop st pend σ' ps asg body)∧ro≤id∧K e σ (T.setLoop id .exhausted pend σ' ps asg body) D∧st≠ .busy∧
  ((pend=none∧e=.normal)∨(pend=some .ret∧e=.ret)∨∃x,pend=some (.exit x)∧e=.exit x):=by
 unfold jv at h
 split at h
 ·rename_i ho
  cases hb:ble ro id with
  |false=>rw [hb] at h;exact h.elim
  |true=>rw [hb] at h;exact ⟨_,_,_,_,_,_,_,ho,le_of_ble_eq_true hb,h,(λh=>by cases h),.inl ⟨rfl,rfl⟩⟩
 ·rename_i ho
  cases hb:ble ro id with
  |false=>rw [hb] at h;exact h.elim
  |true=>rw [hb] at h;exact ⟨_,_,_,_,_,_,_,ho,le_of_ble_eq_true hb,h,(λh=>by cases h),.inr (.inl ⟨rfl,rfl⟩)⟩
 ·rename_i ho
  cases hb:ble ro id with
  |false=>rw [hb] at h;exact h.elim
  |true=>rw [hb] at h;exact ⟨_,_,_,_,_,_,_,ho,le_of_ble_eq_true hb,h,(λh=>by cases h),.inr (.inr ⟨_,rfl,rfl⟩)⟩
 ·exact h.elim
theorem tH {r:Option Nat}{ro id b:Nat}{σ:List TV}{D:List Nat}{K:KX}{T':VT}(h:jv ro id σ D K T'){g0:Gh}{T0:VT}{w0:World}{g':Gh}{w':World}{a':Act}(r':RW g' T' w')(hb:g'.obj id=some b)(e1:Evo g0 w0 g' w')(hx:Fix ro g0 T0 w0 T' w')
  (hσ:VRs g' w' σ a'.tmps.toList) (hd:a'.defers=D.map (mk g')) (hD:∀id∈D,(g'.obj id).isSome=true) (v:Value):
  rangePost (dH r) 0 P b (λe a' w'=>∃g' σ' T' D',K e σ' T' D'∧Evo g0 w0 g' w'∧RW g' T' w'∧VRs g' w' σ' a'.tmps.toList∧a'.defers=D'.map (mk g')∧(∀id∈D',(g'.obj id).isSome=true)∧Fix ro g0 T0 w0 T' w') a' (.returned v) w':=by
 obtain ⟨st,pend,σ',ps,asg,body,e,n1,n2,n3,n4,n5⟩:=CT h
 obtain ⟨rec3,p1,p2,p3,p4,p5,p6,p7,p8⟩:=lL r' n1 hb
 obtain ⟨q1,q2,q3⟩:=p8 .exhausted pend
 have hrec:({rec3 with state:=.exhausted}:Loop)={rec3 with state:=.exhausted,pending:=pend}:=by rw [←p3]
 refine ⟨_,_,run_endLoop p1 (by rw [p2];exact n4),?_⟩
 rw [hrec,p3]
 have fin:∃g'' σ'' T'' D'',K e σ'' T'' D'' ∧Evo g0 w0 g'' (w'.putObj b (.loop {rec3 with state:=.exhausted,pending:=pend}))∧RW g'' T'' (w'.putObj b (.loop {rec3 with state:=.exhausted,pending:=pend}))∧VRs g'' (w'.putObj b (.loop {rec3 with state:=.exhausted,pending:=pend})) σ'' a'.tmps.toList∧a'.defers=D''.map (mk g'')∧(∀id∈D'',(g''.obj id).isSome=true)∧Fix ro g0 T0 w0 T'' (w'.putObj b (.loop {rec3 with state:=.exhausted,pending:=pend})):=
  ⟨g',σ,_,D,n3,e1.trans q2,q1,hσ.mono q2,hd,hD,hx.trans e1 (q3 ro n2)⟩
 rcases n5 with ⟨rfl,rfl⟩ | ⟨rfl,rfl⟩ | ⟨x,rfl,rfl⟩
 ·exact fin
 ·exact wpIn_ret fin
 ·exact wpIn_exit fin
theorem CU {α:Type}(l m:List α):(l++m).take l.length=l:=by simp
theorem FA (us vs:List Value)(y:Value):(us.toArray++ #[y])++vs.toArray=(us++ [y]++vs).toArray:=by simp
theorem vM {a:Act}{f:Operand}{l:Nat}{fi:FuncId}{us vs:List Value}(h:a.eval f=.func (.func fi) us.toArray vs.toArray)(w:World):
  (resolve a.eval (rangeCall f l) 0).run P w=.ok {target:=.fn (.func fi) vs.toArray,args:=us.toArray++ #[.func (.yield l) #[] #[]]} w:=by
 have hc:a.eval (.const (.func (.yield l) #[] #[]))=.func (.yield l) #[] #[]:=rfl
 simp [resolve,h,hc,ofValue]
theorem xA {fi:FuncId}{fn:Func}{args vs:Array Value}(hfn:P.funcs[fi]?=some fn)(hb:fn.body.isSome=true)(hnm:(fn.name== "runtime.NumGoroutine")=false)(w:World):
  (invoke (.fn (.func fi) vs) args).run P w=.ok (.enter fi (args++vs)) w:=by
 have hb':fn.body≠none:=by intro h;rw [h] at hb;cases hb
 have hnm':fn.name≠ "runtime.NumGoroutine" :=by simpa using hnm
 simp [invoke,callFunc,hfn,hnm',hb']
theorem VWx.range0 {ro:Nat}{f:Operand}{ps:Array Tmp}{asg body:Code}{σ:List TV}{T:VT}{D:List Nat}{K:KX}{fi:FuncId}{fn:Func}{first ca:List TV}(hf:bt G σ f=.fn (.func fi) first ca)
  (hfn:P.funcs[fi]?=some fn) (hb:fn.body.isSome=true) (hnm:(fn.name== "runtime.NumGoroutine")=false)
  (hc:VCx P G ro fi (first++ [.yld (T.objs.length+1)]++ca) {T with objs:=T.objs++ [.defd]++ [.loop .ready none σ ps asg body]} λ_ T'=>jv ro (T.objs.length+1) σ (T.objs.length::D) K T'):
  VWx P G none ro (.rangeFunc f ps asg body) σ T D K:=by
 intro r g w a rw0 hG hσ hd hD hrd
 have hrd:r=none:=hrd
 subst hrd
 have hv:=fC hG hσ f
 rw [hf] at hv
 obtain ⟨us,vs,h2,h3,h4⟩:=hv.fn_inv
 refine wpIn_rangeFunc λfd _=> ?_
 obtain ⟨g1,r1,e1,ho1,_⟩:=rw0.new (.deferred (some [])) (o:=.defd) rfl (alloc_heap_new _ _)
 have hE:=Evo.of_gr r1 ((Gr.refl (w.alloc (.deferred (some [])))).alloc (.loop {state:=.ready,pending:=none,fn:=fd,tmps:=a.tmps,params:=ps,assign:=asg,body:=body,defers:=w.heap.size}))
 obtain ⟨g2,r2,e2,ho2,_⟩:=r1.new (.loop {state:=.ready,pending:=none,fn:=fd,tmps:=a.tmps,params:=ps,assign:=asg,body:=body,defers:=w.heap.size}) (o:=.loop .ready none σ ps asg body) rfl
  ⟨a.tmps.toList,fd,w.heap.size,alloc_heap_new _ _,hσ.mono (e1.trans hE)⟩
 have ee:=e1.trans e2
 have hl:(w.alloc (.deferred (some []))).heap.size=w.heap.size+1:=World.size_alloc ..
 have hl2:({T with objs:=T.objs++ [.defd]}:VT).objs.length=T.objs.length+1:=by simp
 rw [hl,hl2] at ho2
 have ho1':=e2.obj _ _ ho1
 have f1:Fix ro g T w {T with objs:=T.objs++ [.defd]++ [.loop .ready none σ ps asg body]} ((w.alloc (.deferred (some []))).alloc (.loop {state:=.ready,pending:=none,fn:=fd,tmps:=a.tmps,params:=ps,assign:=asg,body:=body,defers:=w.heap.size})):=
  Fix.of_same (Same.of_gr rw0 (((Gr.refl w).alloc _).alloc _)) (by simp only [List.append_assoc];exact CU _ _)
 refine ⟨w.heap.size+1,[{target:=.collected w.heap.size,args:= #[]}],_,_,_,fi,_,_,run_enterLoop_outer fd a.tmps ps asg body,vM h2 _,λ_ _=>trivial,xA hfn hb hnm _,λh=>(by cases h),?_⟩
 have hargs:VRs g2 _ (first++ [.yld (T.objs.length+1)]++ca) (us++ [.func (.yield (w.heap.size+1)) #[] #[]]++vs):=((h3.mono ee).app (VRs.cons (.yld ho2) (VRs.nil _ _))).app (h4.mono ee)
 have hcall:=hc g2 _ _ r2 (hG.mono ee) hargs
 have ha:(us.toArray++ #[Value.func (.yield (w.heap.size+1)) #[] #[]])++vs.toArray=(us++ [Value.func (.yield (w.heap.size+1)) #[] #[]]++vs).toArray:=FA us vs _
 rw [ha]
 refine qz (Calls.mono hcall ?_)
 rintro e w' ⟨v,x,g',T',rfl,hq,e3,r',hv,hx⟩
 have eE:=ee.trans e3
 refine tH (a':={tmps:=a.tmps,defers:= [{target:=.collected w.heap.size,args:= #[]}]++a.defers}) hq r' (e3.obj _ _ ho2) eE (f1.trans ee hx) (hσ.mono eE) ?_ ?_ v
 ·show [_]++a.defers=_
  rw [hd,map_cons,oL eE hD]
  simp [mk,e3.obj _ _ ho1']
 ·intro id hid
  rcases mem_cons.1 hid with rfl | hid
  ·rw [e3.obj _ _ ho1'];rfl
  ·exact iy eE hD id hid
theorem VWx.range1 {i0 ro:Nat}{f:Operand}{ps:Array Tmp}{asg body:Code}{σ:List TV}{T:VT}{D:List Nat}{K:KX}{fi:FuncId}{fn:Func}{first ca:List TV}{st0:LoopState}{pend0:Option Code}{σ0:List TV}{ps0:Array Tmp}{asg0 body0:Code}
  (hf:bt G σ f=.fn (.func fi) first ca) (hlp:T.objs[i0]?=some (.loop st0 pend0 σ0 ps0 asg0 body0))
  (hfn:P.funcs[fi]?=some fn) (hb:fn.body.isSome=true) (hnm:(fn.name== "runtime.NumGoroutine")=false)
  (hc:VCx P G ro fi (first++ [.yld T.objs.length]++ca) {T with objs:=T.objs++ [.loop .ready none σ ps asg body]} λ_ T'=>jv ro T.objs.length σ D K T'):
  VWx P G (some i0) ro (.rangeFunc f ps asg body) σ T D K:=by
 intro r g w a rw0 hG hσ hd hD hrd
 obtain ⟨hr1,hr2⟩:=hrd
 obtain ⟨b0,rfl⟩:=isSome_iff_exists.1 hr1
 obtain ⟨rec0,k1,_⟩:=lL rw0 hlp hr2
 have hv:=fC hG hσ f
 rw [hf] at hv
 obtain ⟨us,vs,h2,h3,h4⟩:=hv.fn_inv
 refine wpIn_rangeFunc λfd _=> ?_
 have hE:=Evo.of_gr rw0 ((Gr.refl w).alloc (.loop {state:=.ready,pending:=none,fn:=fd,tmps:=a.tmps,params:=ps,assign:=asg,body:=body,defers:=rec0.defers}))
 obtain ⟨g2,r2,ee,ho2,_⟩:=rw0.new (.loop {state:=.ready,pending:=none,fn:=fd,tmps:=a.tmps,params:=ps,assign:=asg,body:=body,defers:=rec0.defers}) (o:=.loop .ready none σ ps asg body) rfl
  ⟨a.tmps.toList,fd,rec0.defers,alloc_heap_new _ _,hσ.mono hE⟩
 have f1:Fix ro g T w {T with objs:=T.objs++ [.loop .ready none σ ps asg body]} (w.alloc (.loop {state:=.ready,pending:=none,fn:=fd,tmps:=a.tmps,params:=ps,assign:=asg,body:=body,defers:=rec0.defers})):=
  Fix.of_same (Same.of_gr rw0 ((Gr.refl w).alloc _)) (CU _ _)
 refine ⟨w.heap.size,[],_,_,_,fi,_,_,run_enterLoop_inner k1 fd a.tmps ps asg body,vM h2 _,λ_ _=>trivial,xA hfn hb hnm _,λh=>(by cases h),?_⟩
 have hargs:VRs g2 _ (first++ [.yld T.objs.length]++ca) (us++ [.func (.yield w.heap.size) #[] #[]]++vs):=((h3.mono ee).app (VRs.cons (.yld ho2) (VRs.nil _ _))).app (h4.mono ee)
 have hcall:=hc g2 _ _ r2 (hG.mono ee) hargs
 have ha:(us.toArray++ #[Value.func (.yield w.heap.size) #[] #[]])++vs.toArray=(us++ [Value.func (.yield w.heap.size) #[] #[]]++vs).toArray:=FA us vs _
 rw [ha]
 refine qz (Calls.mono hcall ?_)
 rintro e w' ⟨v,x,g',T',rfl,hq,e3,r',hv,hx⟩
 have eE:=ee.trans e3
 refine tH (a':={tmps:=a.tmps,defers:= []++a.defers}) hq r' (e3.obj _ _ ho2) eE (f1.trans ee hx) (hσ.mono eE) ?_ (iy eE hD) v
 show []++a.defers=_
 rw [hd,oL eE hD];rfl
def bk (P:Program)(G:aV)(C:FuncId→Option be):Prop:=∀f W,C f=some W→∀ro xs T K,W ro xs T K→VCx P G ro f xs T K
def jz (P:Program):Bool:=P.funcs.toList.all λfn=> !fn.body.isSome || !(fn.name== "runtime.NumGoroutine")
theorem AE {C:FuncId→Option be}(hB:jz P=true)(hC:bk P G C){run:zi}(hrun:Hp P G run):jw P G (lg P C run):=by
 intro ro f xs T K h
 unfold lg at h
 split at h
 ·rename_i fn hf
  split at h
  ·rename_i c hc
   have hnm:(fn.name== "runtime.NumGoroutine")=false:=by
    have hmem:fn∈P.funcs.toList:=by
     obtain ⟨hlt,he⟩:=Array.getElem?_eq_some_iff.1 hf
     rw [←he];exact mem_toList_iff.2 (Array.getElem_mem hlt)
    have:=all_eq_true.1 hB fn hmem
    simpa [hc] using this
   refine ⟨fn,hf,by rw [hc];rfl,hnm,?_⟩
   split at h
   ·rename_i W hW
    exact hC f W hW ro xs T K h
   ·exact VCx.enter hf hc (hrun _ _ _ _ _ _ _ h)
  ·exact h.elim
 ·exact h.elim
def dD (P:Program)(G:aV)(L:Nat→Option (cB × Code)):Prop:=∀id W c,L id=some (W,c)→∀rd ro σ T D K,W rd ro σ T D K→VWx P G rd ro c σ T D K
theorem ai:dD P G λ_=>none:=λ_ _ _ h=>by cases h
theorem uV {C:FuncId→Option be}(hm:P.follows .mixedOrders=true)(hB:jz P=true)(hC:bk P G C):
  ∀n m,m≤n→∀F L,dD P G L→Hp P G (vx P G C F m L)
 |_,0,_,_,_,_,_,_,_,_,_,_,_,h=>by simp only [vx] at h;exact h.elim
 | 0,m+1,hle,_,_,_,_,_,_,_,_,_,_,_=>by omega
 |n+1,m+1,hle,F,L,hL,rd,ro,c,σ,T,D,K,h=>by
  have ih:=λm hm0=>uV hm hB hC n m hm0 F L hL
  have ih0:=λm hm0=>uV hm hB hC n m hm0 aM (λ_=>none) ai
  have hcal:jw P G (lg P C (vx P G C aM m λ_=>none)):=AE hB hC (ih0 m (by omega))
  have hrnd:lk P G (qV (vx P G C aM m λ_=>none)):=AD (ih0 m (by omega))
  unfold vx at h
  cases c with
  |skip=>exact VWx.here (e:=.normal) h λF a w R hr=>wpIn_skip hr
  |exit id=>exact VWx.here (e:=.exit id) h λF a w R hr=>wpIn_exit hr
  |ret=>exact VWx.here (e:=.ret) h λF a w R hr=>wpIn_ret hr
  |seq a b=>
   refine VWx.seq ((ih m (by omega) _ _ _ _ _ _ _ h).mono λe σ T D hq=> ?_)
   cases e<;>first
    |exact ih m (by omega) _ _ _ _ _ _ _ hq
    |exact hq
  |cond c x y=>
   simp only at h
   split at h
   ·rename_i b hb
    refine VWx.cond hb (λhbt=> ?_) (λhbf=> ?_)
    ·subst hbt;exact ih m (by omega) _ _ _ _ _ _ _ h
    ·subst hbf;exact ih m (by omega) _ _ _ _ _ _ _ h
   ·exact h.elim
  |block id c=>
   simp only at h
   split at h
   ·rename_i W c' hW
    obtain ⟨rfl,h⟩:=h
    exact hL _ _ _ hW rd ro σ T D K h
   ·exact VWx.block (ih m (by omega) _ _ _ _ _ _ _ h)
  |scope c=>exact VWx.scope (ih m (by omega) _ _ _ _ _ _ _ h)
  |loop c=>
   refine VWx.loop (λk σ T D=>k≤m+1∧vx P G C F k L rd ro (.loop c) σ T D K) (m+1) ⟨le_refl _,by unfold vx;exact h⟩ ?_
   rintro k σ T D ⟨hk,h⟩
   cases k with
   |zero=>simp only [vx] at h;exact h.elim
   |succ j=>
    unfold vx at h
    refine (ih j (by omega) _ _ _ _ _ _ _ h).mono λe σ T D hq=> ?_
    cases e<;>first
     |exact ⟨j,by omega,by omega,hq⟩
     |exact hq
  |region id ops d=>
   simp only at h
   split at h
   ·rename_i W c' hW
    obtain ⟨rfl,h⟩:=h
    exact hL _ _ _ hW rd ro σ T D K h
   ·cases d with
    |false=>exact xt (Q:=K) hcal hrnd h
    |true=>exact LW (Q:=K) hcal hrnd hm h
  |rangeFunc f ps a b=>
   simp only at h
   split at h
   ·rename_i fi first ca hf
    cases rd with
    |none=>
     obtain ⟨fn,h1,h2,h3,h4⟩:=hcal _ _ _ _ _ h
     exact VWx.range0 hf h1 h2 h3 h4
    |some i0=>
     simp only at h
     split at h
     ·rename_i hlp
      obtain ⟨fn,h1,h2,h3,h4⟩:=hcal _ _ _ _ _ h
      exact VWx.range1 hf hlp h1 h2 h3 h4
     ·exact h.elim
   ·exact h.elim
  |label l=>exact VWx.here (e:=.normal) h λF a w R hr=>wpIn_label hr
  |goto l=>exact h.elim
  |refuse why=>exact h.elim
theorem AF {C:FuncId→Option be}(hm:P.follows .mixedOrders=true)(hB:jz P=true)(hC:bk P G C){F:ki}{n:Nat}{L:Nat→Option (cB × Code)}(hL:dD P G L){ro:Nat}{f:FuncId}{xs:List TV}{T:VT}{K:TV→VT→Prop}
  (h:au P G C F n L ro f xs T K):VCx P G ro f xs T K:=by
 unfold au at h
 split at h
 ·rename_i fn hf
  split at h
  ·rename_i c hc
   exact VCx.enter hf hc (uV hm hB hC n n (le_refl _) _ _ hL _ _ _ _ _ _ _ h)
  ·exact h.elim
 ·exact h.elim
theorem LX {C:FuncId→Option be}(hm:P.follows .mixedOrders=true)(hB:jz P=true)(hC:bk P G C){n:Nat}{L:Nat→Option (cB × Code)}(hL:dD P G L){ro:Nat}{f:FuncId}{xs:List TV}{T:VT}{K:TV→VT→Prop}
 (h:NV P G C n L ro f xs T K):VCx P G ro f xs T K:=AF hm hB hC hL (F:=aM) h
theorem am:bk P G λ_=>none:=λ_ _ h=>by cases h
end
section
variable {P:Program}{G:aV}
def fO (id:Nat):Code→Option Code
 | .block i c=>bif beq i id then some (.block i c) else fO id c
 | .seq a b=>match fO id a with
  |some c=>some c
  |none=>fO id b
 | .cond _ a b=>match fO id a with
  |some c=>some c
  |none=>fO id b
 | .loop c=>fO id c
 | .scope c=>fO id c
 | .rangeFunc _ _ a b=>match fO id a with
  |some c=>some c
  |none=>fO id b
 |_=>none
def xB (P:Program)(f:FuncId):Code:=match P.funcs[f]? with
 |some fn=>fn.body.getD .skip
 |none=>.skip
def aA (P:Program)(f:FuncId)(id:Nat):Code:=(fO id (xB P f)).getD .skip
def xC:Code→Code
 | .block _ (.loop c)=>c
 |_=>.skip
def cM (P:Program)(f:FuncId)(id:Nat):Code:=xC (aA P f id)
def kj (id:Nat):Code→Bool
 | .block i (.loop _)=>beq i id
 |_=>false
theorem zl {id:Nat}{c:Code}(h:kj id c=true):c=.block id (.loop (xC c)):=by
 unfold kj at h
 split at h
 ·rw [eq_of_beq_eq_true h];rfl
 ·cases h
def LEs:List TV→List (Option TV)→Prop
 |[],[]=>True
 |_::l,none::m=>LEs l m
 |x::l,some y::m=>x=y∧LEs l m
 |_,_=>False
def m9 (m:List (Option TV)):List TV:=m.map λo=>o.getD .dead
theorem LEs.ok {g:Gh}{w:World}:∀{σ:List TV} {m:List (Option TV)} {us:List Value},LEs σ m→VRs g w σ us→VRs g w (m9 m) us
 |[],[],us,_,h=>h
 |x::l,none::m,us,k,h=>by
  match us,h with
  |[],h=>have:=h.1;simp at this
  |u::us,h=>
   have h1:VRs g w l us:=⟨by have:=h.1;simpa using this,λj y v hy hv=>h.2 (j+1) y v (by simpa using hy) (by simpa using hv)⟩
   exact VRs.cons (.dead u) (LEs.ok (show LEs l m from k) h1)
 |x::l,some y::m,us,k,h=>by
  obtain ⟨rfl,k⟩:=k
  match us,h with
  |[],h=>have:=h.1;simp at this
  |u::us,h=>
   have h1:VRs g w l us:=⟨by have:=h.1;simpa using this,λj y v hy hv=>h.2 (j+1) y v (by simpa using hy) (by simpa using hv)⟩
   exact VRs.cons (h.2 0 x u rfl rfl) (LEs.ok k h1)
 |[],_::_,_,k,_=>k.elim
 |x::l,[],_,k,_=>k.elim
theorem VWx.sub {rd:Option Nat}{ro:Nat}{c:Code}{σ σ':List TV}{T:VT}{D:List Nat}{Q:KX}(h:VWx P G rd ro c σ' T D Q)(hs:∀g w us,VRs g w σ us→VRs g w σ' us):VWx P G rd ro c σ T D Q:=
 λr g w a rw0 hG hσ=>h r g w a rw0 hG (hs _ _ _ hσ)
def Jq {ι:Type}(μ:ι→Nat)(sl:ι→List (Option TV))(tt:ι→VT)(Inv:ι→Prop)(N M:Nat)(s:ι)(σ:List TV)(T:VT):Prop:=
 ∃s',Inv s'∧μ s' <μ s∧((T=tt s'∧LEs σ (sl s'))∨(T.keep N M=tt s'∧LEs (aB (ax N) (ax M) σ) (sl s')))
theorem VWx.loopS {ι:Type}{rd:Option Nat}{c:Code}{D:List Nat}{Q:KX}(μ:ι→Nat)(sl:ι→List (Option TV))(tt:ι→VT)(Inv:ι→Prop)(N M:Nat)(hN:∀s,Inv s→(tt s).objs.length≤N∧(tt s).tails.length≤M)(hD:∀id∈D,id<N)
    (hbody:∀s,Inv s→VWx P G rd 0 c (m9 (sl s)) (tt s) D (rX (λσ T D'=>D'=D∧Jq μ sl tt Inv N M s σ T) Q)):
    ∀s,Inv s→VWx P G rd 0 (.loop c) (m9 (sl s)) (tt s) D Q:=by
  intro s0 hs0
  refine VWx.loop (λn σ T D'=>∃s,Inv s∧μ s=n∧σ=m9 (sl s)∧T=tt s∧D'=D) (μ s0) ⟨s0,hs0,rfl,rfl,rfl,rfl⟩ ?_
  rintro n σ T D' ⟨s,hs,rfl,rfl,rfl,rfl⟩
  intro r g w a rw0 hG hσ hd hDs hrd
  refine wpIn_mono (hbody s hs r g w a rw0 hG hσ hd hDs hrd) ?_
  rintro e a' w' ⟨g',σ',T',D'',hq,e',r',hσ',hd',hDs',hx⟩
  cases e<;>first
    |exact ⟨g',σ',T',D'',hq,e',r',hσ',hd',hDs',hx⟩
    | (obtain ⟨rfl,s',hs',hlt,⟨rfl,hle⟩ | ⟨hT,hle⟩⟩:=hq
       · exact ⟨g',_,_,_,⟨_,hlt,s',hs',rfl,rfl,rfl,rfl⟩,e',r',hle.ok hσ',hd',hDs',hx⟩
       · have hdk:∀id∈D'',(g'.keep N M).obj id=g'.obj id:=λid hid=>by simp [Gh.keep,hD id hid]
         refine ⟨g'.keep N M,_,tt s',D'',⟨_,hlt,s',hs',rfl,rfl,rfl,rfl⟩,e'.keep rw0 (hN s hs).1 (hN s hs).2,hT▸r'.keep N M,hle.ok (hσ'.ren (v8 g' N M)),?_,?_,?_⟩
         · rw [hd']
           apply List.map_congr_left
           intro id hid
           simp only [mk,hdk id hid]
         · intro id hid
           rw [hdk id hid];exact hDs' id hid
         · refine ⟨?_,λi hi=>absurd hi (not_lt_zero i),λi o b hi=>absurd hi (not_lt_zero i)⟩
           rw [←hT]
           simp only [VT.keep,List.length_map,length_take]
           have h1:=hx.len
           have h2:=(hN s hs).1
           omega)
theorem VWx.blockS {ι:Type}{rd:Option Nat}{f:FuncId}{id:Nat}{D:List Nat}{Q:KX}(hc:kj id (aA P f id)=true)(μ:ι→Nat)(sl:ι→List (Option TV))(tt:ι→VT)(Inv:ι→Prop)(N M:Nat)(hN:∀s,Inv s→(tt s).objs.length≤N∧(tt s).tails.length≤M)(hD:∀id∈D,id<N)
  (hbody:∀s,Inv s→VWx P G rd 0 (cM P f id) (m9 (sl s)) (tt s) D (rX (λσ T D'=>D'=D∧Jq μ sl tt Inv N M s σ T) (tz id Q))):
  ∀s,Inv s→VWx P G rd 0 (aA P f id) (m9 (sl s)) (tt s) D Q:=by
 intro s hs
 rw [zl hc]
 exact VWx.block (VWx.loopS μ sl tt Inv N M hN hD hbody s hs)
def dd (G:aV):Prop:=∀n cs,G n=some cs→∃vs:List Value,cs=vs.map .val
theorem GOk.sub {g g':Gh}{w:World}{f h:Nat→Option Nat}(hv:dd G)(k:GOk G g w)(r:s9 g g' f h):GOk G g' w:=λn cs hn=>by
 obtain ⟨vs,rfl⟩:=hv n cs hn
 have h1:=(k n _ hn).ren r
 simp only [TV.ren,Ao] at h1
 exact h1
theorem VCx.lift {ro:Nat}{f:FuncId}{xs ys:List TV}{T:VT}{Q:TV→VT→Prop}(is ks:List Nat)(hv:dd G)(hi:is.Nodup)(hk:ks.Nodup)(hil:∀i∈is,∃o,T.objs[i]?=some o∧o.live=true)(hkl:∀k∈ks,k<T.tails.length)(hro:∀i∈is,ro≤i)
  (hx:aB (bb is) (bb ks) ys=xs) (h:VCx P G 0 f xs (T.give is ks) Q) (hlen:∀x T',Q x T'→is.length≤T'.objs.length∧ks.length≤T'.tails.length):
  VCx P G ro f ys T λy T'' =>∃x T',Q x T'∧y=x.ren (bd T.objs.length is) (bd T.tails.length ks)∧T'' =T.back is ks T':=by
 intro g w us rw0 hG hxs
 have hargs:=hxs.ren (y7 g T is ks)
 rw [hx] at hargs
 have hil':∀i∈is,i<T.objs.length:=λi h=>by obtain ⟨o,h1,_⟩:=hil i h;exact (List.getElem?_eq_some_iff.1 h1).1
 have r1:=rw0.give hi hk hil' hkl
 refine Calls.mono (h _ w _ r1 (hG.sub hv (y7 g T is ks)) hargs) ?_
 rintro e w' ⟨v,x,gc,T',rfl,hq,e',r',hv',_⟩
 obtain ⟨l1,l2⟩:=hlen x T' hq
 obtain ⟨g',ev,rb,rn⟩:=IQ rw0 hi hk hil hkl e' r' l1 l2
 obtain ⟨b1,b2,b3,b4⟩:=m6 is T.objs (T'.objs.map (VO.ren (bd T.objs.length is) (bd T.tails.length ks))) hi hil' (by simpa using l1)
 refine ⟨v,_,g',_,rfl,⟨x,T',hq,rfl,rfl⟩,ev,rb,hv'.ren rn,?_,?_,?_⟩
 ·show T.objs.length≤(cu T.objs is _).length
  rw [b1];omega
 ·intro i hir hil2
  exact b2 i hil2 λhm=>absurd (hro i hm) (by omega)
 ·intro i o b hir ho hl hb
  have hnm:i∉is:=λhm=>absurd (hro i hm) (by omega)
  exact e'.frb b (.inr (.inl ⟨i,o,ho,hl,hnm,hb⟩))
theorem VCx.liftPure {ro:Nat}{f:FuncId}{xs ys:List TV}{T:VT}{y:TV}{K:TV→VT→Prop}(hv:dd G)(h:VCx P G 0 f xs ⟨[],[]⟩ λx T'=>x=y∧T'=⟨[],[]⟩)(hx:aB (bb []) (bb []) ys=xs)(hy:∀f h,y.ren f h=y)(k:K y T):VCx P G ro f ys T K:=by
 refine (VCx.lift (T:=T) [] [] hv nodup_nil nodup_nil (by simp) (by simp) (by simp) hx (by rw [VT.give_nil];exact h) (λ_ _ _=>⟨Nat.zero_le _,Nat.zero_le _⟩)).mono ?_
 rintro z T' ⟨x,T'',⟨rfl,rfl⟩,rfl,rfl⟩
 have hb:T.back [] [] ⟨[],[]⟩=T:=by rw [VT.back_nil];cases T;simp
 rw [hy,hb];exact k
def aI:List (FuncId × be)→FuncId→Option be
 |[],_=>none
 | (f,W)::l,g=>bif beq f g then some W else aI l g
theorem aQ:∀{l:List (FuncId × be)},(∀p∈l,∀ro xs T K,p.2 ro xs T K→VCx P G ro p.1 xs T K)→bk P G (aI l)
 |[],_=>λ_ _ h=>by cases h
 | (f,W)::l,h=>λg W' hW=>by
  simp only [aI] at hW
  cases hb:beq f g with
  |true=>
   rw [hb] at hW
   injection hW with hW;subst hW
   have:=eq_of_beq_eq_true hb
   subst this
   exact h _ mem_cons_self
  |false=>
   rw [hb] at hW
   exact aQ (λp hp=>h p (mem_cons_of_mem _ hp)) g W' hW
theorem ak {b:Bool}{X Y:Prop}(ht:b=true→X)(hf:b=false→Y):cond b X Y:=by
 cases b
 ·exact hf rfl
 ·exact ht rfl
theorem VCx.keepQ {f:FuncId}{xs:List TV}{T:VT}{Q:TV→VT→Prop}(n m:Nat)(hn:T.objs.length≤n)(hm:T.tails.length≤m)(h:VCx P G 0 f xs T λx T'=>Q (x.ren (ax n) (ax m)) (T'.keep n m)):VCx P G 0 f xs T Q:=by
 intro g w us rw0 hG hx
 refine Calls.mono (h g w us rw0 hG hx) ?_
 rintro e w' ⟨v,x,g',T',he,hq,e',r',hv,hfx⟩
 refine ⟨v,_,g'.keep n m,T'.keep n m,he,hq,e'.keep rw0 hn hm,r'.keep n m,hv.ren (v8 g' n m),?_,λi hi=>absurd hi (not_lt_zero i),λi o b hi=>absurd hi (not_lt_zero i)⟩
 simp only [VT.keep,List.length_map,length_take]
 have h1:=hfx.len
 omega
end
section
variable {P:Program}{w:World}
end
section
variable {P:Program}{w:World}{ops:Array Oper}{a:Act}{dst:Option Tmp}{ty:TypeId}{pos:String}{after:Array Edge}
end
section
variable {P:Program}
def PD:TV→Bool
 | .val _ | .ptr .. | .sl .. | .map _ | .dead=>true
 |_=>false
def sc (x:TV):TV:=if PD x then x else .dead
def CV (size k e:Nat)(n:Nat)(es':List (List TV))(σ:List TV):List TV:=σ.map λx=>match x with
 | .vec s es (.tail k' e')=>if s=size∧k'=k∧e'=e∧es.length=n then .vec size es' .none else .dead
 |x=>sc x
end
section
open Go.ChangeShapes Go.WideShapes Go.ChangeAt Go.RowKit Go.Joins Go.Deep
def kR (w:World):Gh:=⟨λ_=>none,λb o=>(w.cell? ⟨b,o,none⟩).isSome=true,λb=>b<w.heap.size,λ_=>none⟩
theorem Se (w:World):RW (kR w) ⟨[],[]⟩ w:=by
 refine ⟨(λid o h=>by simp at h),(λi j oi oj b h=>by simp at h),(λ_ _=>rfl),(λ_ _ h=>h),(λ_ h=>h),(λk p h=>by simp at h),(λ_ _=>rfl),(λi j x y b h=>nomatch h),(λi oi b k x h=>by simp at h),(λk x h=>nomatch h),(λk x h=>nomatch h),(λk x h=>nomatch h)⟩
section
variable {H:Type}{enc:TypeId × Value→H}{P:Program}{w:World}{base:Nat}{spare:Nat→Bool}{held:Bool}
end
end
section
open Go.ChangeShapes Go.WideShapes Go.ChangeAt Go.RowKit Go.Joins Go.Deep
def mE (x:TV)(_:VT):Prop:=match x with
 | .val (.bool b)=>cond b True False
 |_=>False
theorem VCx.topK {P:Program}{G:aV}{ro:Nat}{f:FuncId}{xs:List TV}{us:List Value}(h:VCx P G ro f xs ⟨[],[]⟩ mE)(w:World)(hG:GOk G (kR w) w)(hx:VRs (kR w) w xs us):
  Calls P f us.toArray w λe w'=>e=.returned (.bool true)∧Gr w w':=by
 refine (h (kR w) w us (Se w) hG hx).mono ?_
 rintro e w' ⟨u,x,g',T',rfl,hq,ev,_,hv,_⟩
 unfold mE at hq
 split at hq
 ·rename_i b
  cases b with
  |false=>exact hq.elim
  |true=>
   rw [hv.val_inv]
   exact ⟨rfl,ev.os,ev.tape,ev.output,ev.size,λb hb=>ev.frb b hb⟩
 ·exact hq.elim
theorem VCx.trueOnly {P:Program}{G:aV}{f:FuncId}{xs:List TV}(h:VCx P G 0 f xs ⟨[],[]⟩ mE):VCx P G 0 f xs ⟨[],[]⟩ λx T'=>x=.val (.bool true)∧T'=⟨[],[]⟩:=by
 refine VCx.keepQ 0 0 (le_refl _) (le_refl _) (h.mono λx T' hx=> ?_)
 unfold mE at hx
 split at hx
 ·rename_i b
  cases b with
  |false=>exact hx.elim
  |true=>exact ⟨rfl,by simp [VT.keep]⟩
 ·exact hx.elim
def uW:be:=λ_ ys T K=>match ys with
 |[]=>K (.val (.bool true)) T
 |_::_=>False
theorem CW {P:Program}{G:aV}(hv:dd G){f:FuncId}(h:VCx P G 0 f [] ⟨[],[]⟩ mE):∀ro ys T K,uW ro ys T K→VCx P G ro f ys T K:=by
 intro ro ys T K hk
 unfold uW at hk
 split at hk
 ·exact VCx.liftPure hv h.trueOnly rfl (λ_ _=>rfl) hk
 ·exact hk.elim
section
variable {H:Type}{enc:TypeId × Value→H}{P:Program}{w:World}{base:Nat}{spare:Nat→Bool}{held:Bool}
def qW (P:Program)(f:TypeId→Option (List TypeId)):Nat→List Field→Option (List TypeId)
 |_,[]=>some []
 |off,fd::r=>match f fd.type with
  |some ls=>bif beq fd.offset off&&beq (P.cellsOf fd.type) ls.length then (qW P f (off+ls.length) r).map (ls++ ·) else none
  |none=>none
def qX (P:Program):Nat→TypeId→Option (List TypeId)
 | 0,_=>none
 |n+1,t=>match P.underlying t with
  |some (.struct fs)=>qW P (qX P n) 0 fs.toList
  |some (.array ..)=>none
  |_=>some [t]
theorem xD {f:TypeId→Option (List TypeId)}{m:Nat}{cs:List Value}
  (hf:∀t ts sub x,f t=some ts→sub.length=ts.length→trod enc P w base spare held m t sub=some x→∀(j:Nat) t',ts[j]?=some t'→∃u m' y,sub[j]?=some u∧trod enc P w base spare held m' t' [u]=some y):
  ∀(l:List Field) (off:Nat) (ts:List TypeId),qW P f off l=some ts→cs.length=off+ts.length→(∀fd∈l,∃y,trod enc P w base spare held m fd.type ((cs.drop fd.offset).take (P.cellsOf fd.type))=some y)→
   ∀(j:Nat) t',ts[j]?=some t'→∃u m' y,cs[off+j]?=some u∧trod enc P w base spare held m' t' [u]=some y
 |[],off,ts,h,hl,hy,j,t',hj=>by
  simp only [qW] at h
  injection h with h;subst h
  simp at hj
 |fd::l,off,ts,h,hl,hy,j,t',hj=>by
  simp only [qW] at h
  split at h
  ·rename_i ls hls
   cases hb:(beq fd.offset off&&beq (P.cellsOf fd.type) ls.length) with
   |false=>rw [hb] at h;cases h
   |true=>
    rw [hb] at h
    simp only [and_eq_true] at hb
    have h1:=eq_of_beq_eq_true hb.1
    have h2:=eq_of_beq_eq_true hb.2
    simp only [cond_true,map_eq_some_iff] at h
    obtain ⟨ts',h3,rfl⟩:=h
    rw [List.length_append] at hl
    rcases lt_or_ge j ls.length with hj' | hj'
    ·rw [List.getElem?_append_left hj'] at hj
     obtain ⟨y,hy⟩:=hy fd (by simp)
     rw [h1,h2] at hy
     obtain ⟨u,m',y',k1,k2⟩:=hf _ _ _ _ hls (by rw [length_take,List.length_drop];omega) hy j t' hj
     refine ⟨u,m',y',?_,k2⟩
     rw [getElem?_take,if_pos hj',getElem?_drop] at k1
     exact k1
    ·rw [List.getElem?_append_right hj'] at hj
     obtain ⟨u,m',y',k1,k2⟩:=xD hf l (off+ls.length) ts' h3 (by omega) (λfd' h=>hy fd' (by simp [h])) (j-ls.length) t' hj
     refine ⟨u,m',y',?_,k2⟩
     rw [←k1]
     congr 1
     omega
  ·cases h
theorem AG:∀(n:Nat) (m:Nat) (t:TypeId) (ts:List TypeId) (cs:List Value) (x:DataW H × List MemPlace),qX P n t=some ts→cs.length=ts.length→trod enc P w base spare held m t cs=some x→
    ∀(j:Nat) t',ts[j]?=some t'→∃u m' y,cs[j]?=some u∧trod enc P w base spare held m' t' [u]=some y
  | 0,_,_,_,_,_,h,_,_=>by simp only [qX] at h;cases h
  |n+1,m,t,ts,cs,x,h,hl,ht=>by
    simp only [qX] at h
    split at h
    · rename_i fs hs
      obtain ⟨xs,m',_,_,_,hlen,hg⟩:=DataW.trod_struct hs ht
      intro j t' hj
      have:=xD (P:=P) (enc:=enc) (w:=w) (base:=base) (spare:=spare) (held:=held) (m:=m') (cs:=cs) (λt ts sub x h1 h2 h3=>AG n m' t ts sub x h1 h2 h3) fs.toList 0 ts h (by omega) ?_ j t' hj
      · simpa using this
      · intro fd hfd
        obtain ⟨i,hi,rfl⟩:=List.mem_iff_getElem.1 hfd
        have hi':i<fs.size:=by simpa using hi
        have h1:=hg i fs[i] (Array.getElem?_eq_getElem hi')
        have hx:i<xs.length:=by omega
        exact ⟨xs[i],by simpa [getElem?_eq_getElem hx] using h1⟩
    · cases h
    · injection h with h;subst h
      intro j t' hj
      match cs,hl with
      |[u],_=>
        have:j=0:=by
          rcases j with _ | j
          · rfl
          · simp at hj
        subst this
        simp at hj;subst hj
        exact ⟨u,m,x,rfl,ht⟩
theorem LY {m ty:Nat}{u:Value}{y:DataW H × List MemPlace}{k:IntKind}(hk:P.underlying ty=some (.int k))(h:trod enc P w base spare held m ty [u]=some y):∃n,u=.int k n∧(Lit.int k n).wf=true:=by
 obtain ⟨n,e0,_,wn⟩:=DataW.trod_int hk h
 injection e0 with e0
 exact ⟨n,e0,wn⟩
end
end
section
variable {P:Program}{G:aV}
def xE:List Nat→List TV→Nat→Option TV
 |k::ks,v::vs,i=>bif beq k i then some v else xE ks vs i
 |_,_,_=>none
def nq (n:Nat)(keys:List Nat)(vs:List TV):List (Option TV):=(List.range n).map (xE keys vs)
def aJ (n:Nat)(keys:List Nat)(vs:List TV):List TV:=m9 (nq n keys vs)
def pick (keys:List Nat)(σ:List TV):List TV:=keys.map λt=>σ.getD t .dead
theorem xG (σ:List TV):∀(keys:List Nat) (i:Nat) (x:TV),xE keys (pick keys σ) i=some x→x=σ.getD i .dead
 |[],_,_,h=>by simp [xE,pick] at h
 |k::ks,i,x,h=>by
  simp only [pick,map_cons,xE] at h
  cases hb:beq k i with
  |true=>
   rw [hb] at h
   have:=eq_of_beq_eq_true hb
   subst this
   injection h with h;exact h.symm
  |false=>rw [hb] at h;exact xG σ ks i x h
theorem CX:∀(σ:List TV) (m:List (Option TV)),m.length=σ.length→(∀(i:Nat) x,m[i]?=some (some x)→x=σ.getD i .dead)→LEs σ m
 |[],[],_,_=>trivial
 |[],_::_,h,_=>by simp at h
 |_::_,[],h,_=>by simp at h
 |x::l,none::m,h,k=>CX l m (by simpa using h) λi y hy=>by simpa using k (i+1) y (by simpa using hy)
 |x::l,some y::m,h,k=>⟨by simpa using (k 0 y rfl).symm,CX l m (by simpa using h) λi y hy=>by simpa using k (i+1) y (by simpa using hy)⟩
theorem oS (σ:List TV)(keys:List Nat):LEs σ (nq σ.length keys (pick keys σ)):=by
 refine CX _ _ (by simp [nq]) λi x hx=> ?_
 simp only [nq,getElem?_map,map_eq_some_iff] at hx
 obtain ⟨j,hj,hx⟩:=hx
 have e:j=i:=by
  have:=(List.getElem?_eq_some_iff.1 hj).2
  simpa using this.symm
 subst e
 exact xG σ keys j x hx
theorem LZ (f h:Nat→Option Nat)(keys:List Nat)(σ:List TV):pick keys (aB f h σ)=aB f h (pick keys σ):=by
 simp only [pick,gE,List.map_map]
 refine List.map_congr_left λt _=> ?_
 simp only [Function.comp_apply,List.getD_eq_getElem?_getD,getElem?_map]
 cases σ[t]?<;>simp [TV.ren]
def de (keys:List Nat)(Q:Exit→List TV→VT→List Nat→Nat→Prop):KX:=λe σ T D=>Q e (pick keys σ) T D σ.length
theorem VWx.forget {rd:Option Nat}{ro:Nat}{c:Code}{σ:List TV}{T:VT}{n:Nat}{keys:List Nat}{K:KX}{Q:Exit→List TV→VT→Prop}(h:VWx P G rd ro c σ T [] (de keys λe vs T D m=>D= []∧m=n∧Q e vs T))
  (k:∀e vs T,Q e vs T→K e (aJ n keys vs) T []):VWx P G rd ro c σ T [] K:=by
 intro r g w a rw0 hG hσ hd hD hr
 refine wpIn_mono (h r g w a rw0 hG hσ hd hD hr) ?_
 rintro e a' w' ⟨g',σ',T',D',⟨rfl,rfl,hq⟩,e',r',hσ',h⟩
 exact ⟨g',_,T',[],k _ _ _ hq,e',r',(oS σ' keys).ok hσ',h⟩
def Hq {ι:Type}(n id:Nat)(μ:ι→Nat)(sl:ι→List TV)(tt:ι→VT)(Inv:ι→Prop)(N M:Nat)(s:ι)(Post:Exit→List TV→VT→Prop):Exit→List TV→VT→List Nat→Nat→Prop:=λe vs T D m=>D= []∧m=n∧match e with
 | .normal=>∃s',Inv s'∧μ s' <μ s∧((T=tt s'∧vs=sl s')∨(T.keep N M=tt s'∧aB (ax N) (ax M) vs=sl s'))
 | .exit i=>cond (beq i id) (Post .normal vs T) (Post (.exit i) vs T)
 |e=>Post e vs T
theorem dW {ι:Type}{f:FuncId}{id:Nat}(hc:kj id (aA P f id)=true)(n:Nat)(keys:List Nat)(μ:ι→Nat)(sl:ι→List TV)(tt:ι→VT)(Inv:ι→Prop)(N M:Nat)(hN:∀s,Inv s→(tt s).objs.length≤N∧(tt s).tails.length≤M)(Post:Exit→List TV→VT→Prop)
  (hbody:∀s,Inv s→VWx P G none 0 (cM P f id) (aJ n keys (sl s)) (tt s) [] (de keys (Hq n id μ sl tt Inv N M s Post))):
  ∀s,Inv s→∀K:KX,(∀e vs T,Post e vs T→K e (aJ n keys vs) T [])→VWx P G none 0 (aA P f id) (aJ n keys (sl s)) (tt s) [] K:=by
 intro s hs K hK
 refine VWx.forget (n:=n) (keys:=keys) (Q:=Post) ?_ hK
 refine VWx.blockS hc μ (λs=>nq n keys (sl s)) tt Inv N M hN (by simp) (λs hs=>(hbody s hs).mono λe σ T D hq=> ?_) s hs
 obtain ⟨rfl,hm,hq⟩:=hq
 cases e
 case normal=>
  refine ⟨rfl,?_⟩
  obtain ⟨s',h1,h2,h3⟩:=hq
  refine ⟨s',h1,h2,?_⟩
  rcases h3 with ⟨h3,h4⟩ | ⟨h3,h4⟩
  ·left;refine ⟨h3,?_⟩
   show LEs σ (nq n keys (sl s'))
   rw [←h4,←hm];exact oS σ keys
  ·right;refine ⟨h3,?_⟩
   show LEs _ (nq n keys (sl s'))
   rw [←h4,←LZ,←hm]
   have:=oS (aB (ax N) (ax M) σ) keys
   rwa [show (aB (ax N) (ax M) σ).length=σ.length by rw [gE];simp] at this
 case exit i=>
  simp only [rX,tz]
  simp only at hq
  cases hb:beq i id<;>rw [hb] at hq
  ·exact ⟨rfl,hm,hq⟩
  ·exact ⟨rfl,hm,hq⟩
 all_goals exact ⟨rfl,hm,hq⟩
theorem VWx.adopt {rd:Option Nat}{ro:Nat}{c:Code}{σ:List TV}{T:VT}{D:List Nat}{Q:KX}(d size:Nat)(hd:σ[d]?=some (.val (.slice none 0 0)))
  (h:VWx P G rd ro c (σ.set d (.vec size [] (.tail T.tails.length 0))) {T with tails:=T.tails++ [(0,size,true)]} D Q):VWx P G rd ro c σ T D Q:=by
 intro r g w a rw0 hG hσ hdf hDs hrd
 obtain ⟨g1,e1,r1,ht⟩:=rw0.newTail size true
 obtain ⟨u,hu,hv⟩:=hσ.at hd
 have hv':=hv.val_inv
 subst hv'
 have h2:=(hσ.mono e1).set d (x:=.vec size [] (.tail T.tails.length 0)) (u:=.slice none 0 0) (.nil ⟨_,ht,le_refl _,rfl⟩)
 have h3:a.tmps.toList.set d (.slice none 0 0)=a.tmps.toList:=by
  apply ext_getElem?
  intro j
  rw [getElem?_set]
  split
  ·rename_i hj;subst hj;rw [hu,if_pos (List.getElem?_eq_some_iff.1 hu).1]
  ·rfl
 rw [h3] at h2
 refine wpIn_mono (h r g1 w a r1 (hG.mono e1) h2 (hdf.trans (oL e1 hDs).symm) (iy e1 hDs) (Cx e1 hrd)) ?_
 rintro e a' w' ⟨g',σ',T',D',hq,e2,r',hσ',hd',hD',hx⟩
 exact ⟨g',σ',T',D',hq,e1.trans e2,r',hσ',hd',hD',⟨hx.len,λi hi hl=>hx.same i hi hl,λi o b hi ho hl hb=>hx.heap i o b hi ho hl (e1.obj i b hb)⟩⟩
def jA:List (Nat × Nat)→List TV→VT→List TV × VT
 |[],σ,T=>(σ,T)
 |p::l,σ,T=>jA l (σ.set p.1 (.vec p.2 [] (.tail T.tails.length 0))) {T with tails:=T.tails++ [(0,p.2,true)]}
def zm:List (Nat × Nat)→List TV→Prop
 |[],_=>True
 |p::l,σ=>σ[p.1]?=some (.val (.slice none 0 0))∧zm l (σ.set p.1 .dead)
def dB (n:Nat)(keys:List Nat)(ad:List (Nat × Nat))(vs0:List TV)(T0:VT)(R:KX→Prop):cB:=λrd ro σ T D K=>(rd=none∧ro=0∧D= []∧zm ad σ∧(jA ad σ T).2=T0∧beq σ.length n=true∧pick keys (jA ad σ T).1=vs0)∧R K
theorem AH {rd:Option Nat}{ro:Nat}{c:Code}{D:List Nat}{Q:KX}:∀(ad:List (Nat × Nat)) (σ σ':List TV) (T:VT),zm ad σ'→(∀(i:Nat),σ'[i]?=some (.val (.slice none 0 0))→σ[i]?=some (.val (.slice none 0 0)))→σ.length=σ'.length→
  VWx P G rd ro c (jA ad σ T).1 (jA ad σ T).2 D Q→VWx P G rd ro c σ T D Q
 |[],_,_,_,_,_,_,h=>h
 |p::l,σ,σ',T,ho,hs,hl,h=>by
  obtain ⟨h1,h2⟩:=ho
  refine VWx.adopt p.1 p.2 (hs _ h1) (AH l _ (σ'.set p.1 .dead) _ h2 (λi hi=> ?_) (by simpa using hl) h)
  rw [getElem?_set] at hi ⊢
  split
  ·rename_i e;subst e;rw [if_pos rfl] at hi;split at hi<;>simp at hi
  ·rename_i e;rw [if_neg e] at hi;exact hs i hi
theorem tI:∀(ad:List (Nat × Nat)) (σ:List TV) (T:VT),(jA ad σ T).1.length=σ.length
 |[],_,_=>rfl
 |p::l,σ,T=>by rw [jA,tI l];simp
theorem ce {c:Code}{n:Nat}{keys:List Nat}{ad:List (Nat × Nat)}{vs0:List TV}{T0:VT}{R:KX→Prop}(h:∀K,R K→VWx P G none 0 c (aJ n keys vs0) T0 [] K):
  ∀rd ro σ T D K,dB n keys ad vs0 T0 R rd ro σ T D K→VWx P G rd ro c σ T D K:=by
 rintro rd ro σ T D K ⟨⟨rfl,rfl,rfl,ha,rfl,hn,rfl⟩,hR⟩
 obtain rfl:=eq_of_beq_eq_true hn
 refine AH ad σ σ T ha (λ_ h=>h) rfl ((h K hR).sub λg w us hu=> ?_)
 have:=(oS (jA ad σ T).1 keys).ok hu
 rwa [tI] at this
def cG:List (Nat × cB × Code)→Nat→Option (cB × Code)
 |[],_=>none
 | (i,W,c)::l,j=>bif beq i j then some (W,c) else cG l j
theorem bL:∀{l:List (Nat × cB × Code)},(∀p∈l,∀rd ro σ T D K,p.2.1 rd ro σ T D K→VWx P G rd ro p.2.2 σ T D K)→dD P G (cG l)
 |[],_=>λ_ _ _ h=>by cases h
 | (i,W,c)::l,h=>λj W' c' hW=>by
  simp only [cG] at hW
  cases hb:beq i j with
  |true=>
   rw [hb] at hW
   injection hW with hW;injection hW with h1 h2;subst h1 h2
   exact h _ mem_cons_self
  |false=>
   rw [hb] at hW
   exact bL (λp hp=>h p (mem_cons_of_mem _ hp)) j W' c' hW
def Jr (xs:List TV)(y:TV):be:=λ_ ys T K=>ys=xs∧K y T
theorem Js {f:FuncId}{xs:List TV}{y:TV}(hv:dd G)(hx:aB (bb []) (bb []) xs=xs)(hy:∀f h,y.ren f h=y)(h:VCx P G 0 f xs ⟨[],[]⟩ λx T'=>x=y∧T'=⟨[],[]⟩):
  ∀ro ys T K,Jr xs y ro ys T K→VCx P G ro f ys T K:=by
 rintro ro ys T K ⟨rfl,hk⟩
 exact VCx.liftPure hv h hx hy hk
theorem cg {C:FuncId→Option be}(hm:P.follows .mixedOrders=true)(hB:jz P=true)(hC:bk P G C){F:ki}{n:Nat}{L:Nat→Option (cB × Code)}(hL:dD P G L){rd:Option Nat}{ro:Nat}{c:Code}{σ:List TV}{T:VT}{D:List Nat}{K:KX}{X:Prop}
 (h:vx P G C F n L rd ro c σ T D K=X) (hx:X):VWx P G rd ro c σ T D K:=uV hm hB hC n n (le_refl _) F L hL _ _ _ _ _ _ _ (by rw [h];exact hx)
theorem aj {C:FuncId→Option be}(hm:P.follows .mixedOrders=true)(hB:jz P=true)(hC:bk P G C){F:ki}{n:Nat}{L:Nat→Option (cB × Code)}(hL:dD P G L){ro:Nat}{f:FuncId}{xs:List TV}{T:VT}{K:TV→VT→Prop}{X:Prop}
 (h:au P G C F n L ro f xs T K=X) (hx:X):VCx P G ro f xs T K:=AF hm hB hC hL (by rw [h];exact hx)
theorem Hr {t e:TypeId}{inf:TypeInfo}{es:List (List TV)}{tok:Tok}{k:IntKind}{z:Int}{cs:List TV}(ht:P.underlying t=some (.slice e))(hi:P.info? e=some inf)(h0:0≤z)(he:es[z.toNat]?=some cs):
  gv P t (.vec inf.size es tok) (.val (.int k z))=some (.elt cs):=by
 simp [gv,ht,hi,h0,he]
theorem dZ {t e:TypeId}{x i:Operand}{l:List (Nat × TV)}{inf:TypeInfo}{es:List (List TV)}{tok:Tok}{k:IntKind}{z:Int}{cs:List TV}(ht:P.underlying t=some (.slice e))(hi:P.info? e=some inf)
  (hx:aL G l x=.vec inf.size es tok) (hz:aL G l i=.val (.int k z)) (h0:0≤z) (he:es[z.toNat]?=some cs):ba P G (.indexAddr t x i) l (.elt cs):=by
 refine ⟨?_⟩
 simp only [bu,hx,hz,oq,Hr ht hi h0 he]
end
end Go.Proofs.YtogbdjlelkepcaaGreatDoor