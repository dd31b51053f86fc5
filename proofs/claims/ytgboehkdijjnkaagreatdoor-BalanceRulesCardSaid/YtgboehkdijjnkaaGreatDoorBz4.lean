/-Part 4 of the proof of balanceRulesCard_holds:Vdg,Vls,Vfk ... No condition. -/
import Derived.Sort.LoopGhostIn
import Derived.RangeFuncNested
import Derived.ProofKit
import Derived.OpenShut
import Derived.Lib.SmallJoins
import Derived.Deep.Slices
import Derived.Shelf.SlIterI.Nil
import Derived.Shelf.SortM.Plain
import Derived.Shelf.SortM.SortNone
import Derived.Ground.GgzProg
import Derived.Ground.SlgmProg
import Derived.Test.YtgboehkdijjnkaaGreatDoorProg
import Derived.Test.YtgboehkdijjnkaaGreatDoorBz1
import Derived.Test.YtgboehkdijjnkaaGreatDoorBz2
import Derived.Test.YtgboehkdijjnkaaGreatDoorBz3
set_option maxRecDepth 100000
namespace Go.Proofs.YtgboehkdijjnkaaGreatDoor
open Go.RowKit
open _root_.Array (getElem?_push mem_toList_iff replicate size_push)
open Go.BinOp (eql)
open _root_.Bool (and_eq_true not_eq_true' or_eq_true)
open Go.Calls (mono)
open _root_.Classical (not_forall)
open Go.DataW (Trod trod)
open Go.Fence (wide)
open Go.Frame (atR)
open _root_.Function (comp)
open Go.IntKind (i64 u32 wrap)
open _root_.List (all_eq_true any_eq_true find?_cons find?_eq_none find?_some flatten_cons getElem?_eq_getElem getElem?_map length length_cons length_map length_nil length_take map_congr_left map_cons map_id map_map mem_append mem_cons mem_cons_of_mem mem_cons_self mem_map mem_map_of_mem mem_range mem_singleton nodup_append nodup_cons take_length zipWith zipWith_cons_cons)
open _root_.Nat (beq beq_refl ble eq_of_beq_eq_true le_of_ble_eq_true le_refl le_trans lt_or_ge min_le_right not_lt_zero zero_add zero_le)
open Go.Oper (uponIn)
open _root_.Option (isSome_none map_eq_some_iff map_some)
open Go.Region (binds noSelect ready wanted)
open Go.Proofs.Tryz (func108 func95 isAgg0 isAgg158 isAgg25 isAgg3 isAgg4 isAgg52 prog sizeOf0 sizeOf158 sizeOf25 sizeOf3 sizeOf4 underlying0 underlying25 underlying3 underlying4 zeroValue0 zeroValue158 zeroValue25 zeroValue3 zeroValue4)
open Go.Value (okWide)
open Go.World (alloc_heap_new cell? putObj_size)
section
open Go.RowKit
section
variable {P:Program}{G:aC}{F:iJ}{ops:Array Oper}{r:Option Nat}{flo:List (Nat × Option Nat)}{σ:List TV}{T T0:VT}{V R:Array Bool}{pend:List Nat}{g:Gh}{w:World}{a:Act}{prot:Nat→Option Nat}
theorem AA (st:VStat P ops flo)(inv:VInv P G ops flo σ T T0 V R pend g w a.tmps.toList prot)(hG:GOk G g w)(hbx:cG P G ops flo V σ flo=true){QQ:Exit→Act→World→Prop}{K:Act→World→Prop}{j:Nat}(hj:j∈ready .any ops R)(hVF:On V j∨(¬On V j∧j∈bG flo))
  (next:∀g' w' (a':Act) prot',VInv P G ops flo σ T T0 V (R.setIfInBounds j true) pend g' w' a'.tmps.toList prot'→Evo g w g' w'→(∀n,Fix n g T w T w')→a'.defers=a.defers→K a' w'):wpOpIn (bR r) 0 P ops QQ j K a w:=by
 rcases hVF with hV | ⟨hV,hF⟩
 ·exact lO st inv hG hj hV λg' w' a'=>next g' w' a' prot
 ·obtain ⟨i,jo,h1,h2⟩:=bQ.1 hF
  rcases h2 with rfl | rfl
  ·exact Ax st inv h1 hj hV next
  ·exact Ay st inv hG hbx h1 hj hV λg' w' a'=>next g' w' a' prot
theorem sw {QQ:Exit→Act→World→Prop}(h:ready .any ops R= [])(hq:QQ .normal a w):∀fuel,wpAnyIn (bR r) 0 P .any ops QQ fuel R a w
 | 0=>⟨h,hq⟩
 |_+1=>⟨λ_=>hq,λj hj=>by rw [h] at hj;cases hj⟩
theorem ke {QQ:Exit→Act→World→Prop}(hf:cP ops=true)(hs:R.size=ops.size){i:Nat}(hi:i<ops.size)(hn:¬On R i){fuel:Nat}(hfu:iM R≤fuel)
  (step:∀n,n<fuel→∀j∈ready .any ops R,iM (R.setIfInBounds j true)≤n→wpOpIn (bR r) 0 P ops QQ j (wpAnyIn (bR r) 0 P .any ops QQ n (R.setIfInBounds j true)) a w):wpAnyIn (bR r) 0 P .any ops QQ fuel R a w:=by
 cases fuel with
 |zero=>exact absurd (BT (by omega) i (by rw [hs];exact hi)) hn
 |succ n=>
  refine ⟨λh=>absurd (kY hf hs h i hi) hn,λj hj=>step n (Nat.lt_succ_self n) j hj ?_⟩
  obtain ⟨hun,o,ho,_⟩:=mem_ready.1 hj
  have:=DW (R:=R) (i:=j) (by rw [hs];exact (Array.getElem?_eq_some_iff.1 ho).1) (dN hun)
  omega
theorem iO {l:List Nat}{q:Nat→Bool}(h:l.all q=true){k:Nat}(hk:k∈l):q k=true:=all_eq_true.1 h k hk
theorem wI:∀{l m:List Nat},ww l m=true→l=m
 |[],[],_=>rfl
 |a::l,b::m,h=>by
  simp only [ww,and_eq_true] at h
  rw [eq_of_beq_eq_true h.1,wI h.2]
 |[],_::_,h=>by cases h
 |_::_,[],h=>by cases h
theorem sx {b:Bool}{X:Prop}{n:Nat}{op:Op}{l:List TV}(h:cond b X (aG n op l)):b=true∧X:=by
 cases b with
 |false=>exact h.elim
 |true=>exact ⟨rfl,h⟩
theorem wJ {id off n:Nat}{l:List Nat}(h:lN P G ops id off n σ l=true){k:Nat}{o:Oper}(hk:k∈l)(ho:ops[k]?=some o)(hw:br ops (only ops o σ) o=some true)(hp:aR P o.op (aF G (only ops o σ))=none):apartRead P id off n o.op (aF G (only ops o σ))=true:=by
 induction l with
 |nil=>cases hk
 |cons a l ih=>
  unfold lN at h
  rw [and_eq_true] at h
  rcases mem_cons.1 hk with e | hk
  ·subst e
   have h1:=h.1
   rw [ho] at h1
   simp only [hw,hp,isSome_none,Bool.false_or] at h1
   exact h1
  ·exact ih h.2 hk
theorem yw {T0 T1:VT}{l:List Nat}(h:ns P G ops T0 T1 σ l=true){k:Nat}{o:Oper}{y:TV}(hk:k∈l)(ho:ops[k]?=some o)(hw:br ops (only ops o σ) o=some true)(hp:aR P o.op (aF G (only ops o σ))=none)(hr:aH P T0 o.op (aF G (only ops o σ))=some y):aH P T1 o.op (aF G (only ops o σ))=some y:=by
 induction l with
 |nil=>cases hk
 |cons a l ih=>
  unfold ns at h
  rw [and_eq_true] at h
  rcases mem_cons.1 hk with e | hk
  ·subst e
   have h1:=h.1
   rw [ho] at h1
   simp only [hw,hp,isSome_none,Bool.false_or,hr] at h1
   split at h1
   ·rename_i x y' hx hy
    injection hx with hx;subst hx
    rw [hy,tz _ _ h1]
   ·rename_i hx;cases hx
   ·cases h1
  ·exact ih h.2 hk
theorem qD {T0 T1:VT}{l:List Nat}(h:kU P G ops T0 T1 σ l){k:Nat}{o:Oper}{y:TV}(hk:k∈l)(ho:ops[k]?=some o)(hw:br ops (only ops o σ) o=some true)(hp:aR P o.op (aF G (only ops o σ))=none)(hr:aH P T0 o.op (aF G (only ops o σ))=some y):aH P T1 o.op (aF G (only ops o σ))=some y:=by
 induction l with
 |nil=>cases hk
 |cons a l ih=>
  unfold kU at h
  rcases mem_cons.1 hk with e | hk
  ·subst e
   have h1:=h.1
   rw [ho] at h1
   simp only [hw,hp,isSome_none,cond_false] at h1
   rw [←h1];exact hr
  ·exact ih h.2 hk
theorem JI {b c:Bool}{A X:Prop}{n:Nat}{op:Op}{l:List TV}(h:cond b (A∧X) (cond c X (aG n op l))):(A∨c=true)∧X:=by
 cases b with
 |true=>exact ⟨.inl h.1,h.2⟩
 |false=>
  cases c with
  |true=>exact ⟨.inr rfl,h⟩
  |false=>exact h.elim
theorem VPi.mono {ro:Nat}{o:Oper}{s:List TV}{T:VT}{K K':List TV→VT→Prop}(h:VPi P G ro o s T K)(k:∀s T,K s T→K' s T):VPi P G ro o s T K':=
 λr g w a next Q rw0 hG hσ hn=>h r g w a next Q rw0 hG hσ λσ' T' g' w' a' hp hk=>hn σ' T' g' w' a' hp (k _ _ hk)
theorem DY {g:Gh}{w:World}(r:RW g T w){ro:Nat}{t:TypeId}{id off:Nat}{x:TV}{ua u:Value}{T':VT}(h:sg P ro T t (.ptr id off) x=some T')(ha:VR g w (.ptr id off) ua)(hx:VR g w x u):
  ∃g' w',(Instr.storeAt t ua u).run P w=.ok () w'∧VR g' w' (.val undef) undef∧Evo g w g' w'∧RW g' T' w'∧Fix ro g T w T' w':=by
 unfold sg at h
 split at h
 ·rename_i y T1 h1
  injection h with h;subst h
  obtain ⟨g',w',k1,_,k3,k4,k5⟩:=rW (P:=P) r h1 ha hx
  exact ⟨g',w',k1,.val _,k3,k4,k5⟩
 ·cases hr:ble ro id with
  |false=>simp only [hr] at h;cases h
  |true=>
   simp only [hr,cond_true,map_eq_some_iff] at h
   obtain ⟨⟨y,T1⟩,h1,h2⟩:=h
   simp only at h2;subst h2
   obtain ⟨g',w',k1,_,k3,k4,k5⟩:=j9 (P:=P) (ro:=ro) r h1 ha hx (le_of_ble_eq_true hr)
   exact ⟨g',w',k1,.val _,k3,k4,k5⟩
theorem uJ {call:eO}{rnd:fX}(hc:dM P G call)(hrr:eP P G rnd)(st:VStat P ops flo){ro:Nat}{K:List TV→VT→Prop}{gs:Gh}{Ts:VT}{ws:World}{ds:List Deferred}{QQ:Act→World→Prop}
  (hq:∀σ' T' g' w' (a':Act),K σ' T'→Evo gs ws g' w'→RW g' T' w'→VRs g' w' σ' a'.tmps.toList→a'.defers=ds→Fix ro gs Ts ws T' w'→QQ a' w'):
  ∀(fuel:Nat) (l:List (Nat × FK)) (V:Array Bool) (T0:VT) (pend:List Nat) (σ:List TV) (T:VT) (R:Array Bool) (g:Gh) (w:World) (a:Act) (prot:Nat→Option Nat),
   bF P ops flo (bG flo) l V pend=true→bW P G F call rnd ro ops flo V T0 l σ T K→VInv P G ops flo σ T T0 V R pend g w a.tmps.toList prot→GOk G g w→a.defers=ds→Evo gs ws g w→Fix ro gs Ts ws T w→ro≤T0.objs.length→iM R≤fuel→
   wpAnyIn (bR r) 0 P .any ops (b9 QQ) fuel R a w:=by
 intro fuel
 induction fuel using Nat.strongRecOn with
 |_ fuel ihf=>
 intro l
 induction l with
 |nil=>
  intro V T0 pend σ T R g w a prot hp h inv hG hds hes hfx hro hfu
  have hallV:∀i,i<ops.size→On V i:=kY st.flow inv.vs (by simpa [bF] using hp)
  by_cases hall:∀i,i<ops.size→On R i
  ·refine sw (oQ hall) (hq σ T g w a h hes inv.base ⟨inv.rel.1,λs x u hs hu=>inv.rel.2 s x u hs hu λk o hk _=> ?_⟩ hds hfx) _
   have hlt:=(Array.getElem?_eq_some_iff.1 hk).1
   exact ⟨hallV k hlt,hall k hlt⟩
  ·obtain ⟨i,hi⟩:=not_forall.1 hall
   obtain ⟨hi,hn⟩:=Classical.not_imp.1 hi
   refine ke st.flow inv.rs hi hn hfu λn hlt j hj hoff=> ?_
   obtain ⟨_,o,ho,_⟩:=mem_ready.1 hj
   exact lO st inv hG hj (hallV j (Array.getElem?_eq_some_iff.1 ho).1) λg' w' a' inv' e fx hd=>ihf n hlt [] V T0 pend σ T _ g' w' a' prot hp h inv' (hG.mono e) (hd.trans hds) (hes.trans e) (hfx.trans hes (fx ro)) hro hoff
 |cons p l ih=>
  intro V T0 pend σ T R g w a prot hp h inv hG hds hes hfx hro hfu
  obtain ⟨i,k⟩:=p
  --while it waits
  have wait:∀(hbx:cG P G ops flo V σ flo=true) {i0:Nat} (hi0:i0<ops.size) (hn0:¬On R i0)
    (hready:∀j∈ready .any ops R,¬On V j→j∉bG flo→∀n,n<fuel→iM (R.setIfInBounds j true)≤n→wpOpIn (bR r) 0 P ops (b9 QQ) j (wpAnyIn (bR r) 0 P .any ops (b9 QQ) n (R.setIfInBounds j true)) a w),
    wpAnyIn (bR r) 0 P .any ops (b9 QQ) fuel R a w:=λhbx i0 hi0 hn0 hready=>by
   refine ke st.flow inv.rs hi0 hn0 hfu λn hlt j hj hoff=> ?_
   by_cases hVF:On V j∨(¬On V j∧j∈bG flo)
   ·exact AA st inv hG hbx hj hVF λg' w' a' prot' inv' e fx hd=>ihf n hlt ((i,k)::l) V T0 pend σ T _ g' w' a' prot' hp h inv' (hG.mono e) (hd.trans hds) (hes.trans e) (hfx.trans hes (fx ro)) hro hoff
   ·have h1:¬On V j:=λh=>hVF (.inl h)
    exact hready j hj h1 (λh=>hVF (.inr ⟨h1,h⟩)) n hlt hoff
  cases k with
  |own=>
   simp only [bF,and_eq_true,not_eq_true'] at hp
   obtain ⟨⟨⟨hri,hnF⟩,hnd⟩,hp⟩:=hp
   have hri:=bu.1 hri
   have hF:=dY hnF
   obtain ⟨_,o,ho,_⟩:=mem_ready.1 hri
   simp only [ho] at hnd hp
   simp only [bW,ho] at h
   replace h:=dq h
   have hsub:∀k∈pend,k∈(bif isRead P o.op then i::pend else pend):=λk hk=>by
    cases isRead P o.op
    ·exact hk
    ·exact mem_cons_of_mem _ hk
   have go:∀{y},((br ops (only ops o σ) o=some false∧y=.val undef)∨(br ops (only ops o σ) o=some true∧(iL P G ⟨[],[]⟩ o (only ops o σ) y∨(i∈(bif isRead P o.op then i::pend else pend)∧aR P o.op (aF G (only ops o σ))=none∧aH P T0 o.op (aF G (only ops o σ))=some y))))→
     bW P G F call rnd ro ops flo (V.setIfInBounds i true) T0 l (aW σ o.dst y) T K→wpAnyIn (bR r) 0 P .any ops (b9 QQ) fuel R a w:=λhow h=>
    ih _ T0 _ _ T R g w a prot hp h (wG st inv ho hri hF hnd hsub how) hG hds hes hfx hro hfu
   split at h
   ·rename_i b hb
    cases b with
    |true=>
     simp only [cond_true] at h
     split at h
     ·rename_i y hy
      obtain ⟨hpu,h⟩:=h
      rcases uC hpu with h1 | ⟨h1,h2,h3⟩
      ·exact go (.inr ⟨hb,.inl h1⟩) h
      ·exact go (.inr ⟨hb,.inr ⟨by rw [h1];exact mem_cons_self,h2,h3⟩⟩) h
     ·exact h.elim
     ·split at h
      ·rename_i y hy
       rcases uD hy with h1 | ⟨h1,h2,h3⟩
       ·exact go (.inr ⟨hb,.inl h1⟩) h
       ·exact go (.inr ⟨hb,.inr ⟨by rw [h1];exact mem_cons_self,h2,h3⟩⟩) h
      ·exact h.elim
    |false=>
     simp only [cond_false] at h
     exact go (.inl ⟨hb,rfl⟩) h
   ·exact h.elim
  |turn pe=>
   simp only [bF,and_eq_true,not_eq_true'] at hp
   obtain ⟨⟨⟨⟨hpe,hri⟩,hnF⟩,hrd⟩,hp⟩:=hp
   have hpe:=wI hpe
   subst hpe
   have hri:=bu.1 hri
   have hF:=dY hnF
   obtain ⟨hun,o,ho,_⟩:=mem_ready.1 hri
   simp only [bW,ho] at h
   replace h:=dq h
   split at h
   ·rename_i b hb
    cases hbx:cG P G ops flo V σ flo with
    |false=>rw [hbx] at h;exact h.elim
    |true=>
     rw [hbx] at h
     simp only [cond_true] at h
     have hnV:=dN hun
     have hle:T0.objs.length≤T.objs.length:=by
      have:=congrArg length inv.t0
      rw [length_take] at this;omega
     refine wait hbx (Array.getElem?_eq_some_iff.1 ho).1 (λhR=>hF (inv.rv i hR hnV)) λj hj hVj hFj n hlt hoff=> ?_
     have h1:=iO hrd (ny inv hj hVj hFj)
     simp only [or_eq_true] at h1
     rcases h1 with h1 | h1
     ·have h1:=eq_of_beq_eq_true h1
      subst h1
      have ht0T:T.takeO T0.objs.length=⟨T0.objs,T.tails⟩:=by unfold VT.takeO;rw [inv.t0]
      refine jC st inv hG ho hj hri hF hb (ro:=ro) (X:=λσ' T'=>(∀k ok y,k∈pe→ops[k]?=some ok→br ops (only ops ok σ) ok=some true→aR P ok.op (aF G (only ops ok σ))=none→aH P T0 ok.op (aF G (only ops ok σ))=some y→aH P (T'.takeO T0.objs.length) ok.op (aF G (only ops ok σ))=some y)∧bW P G F call rnd ro ops flo (V.setIfInBounds j true) (T'.takeO T0.objs.length) l σ' T' K)
       (λhbt=> ?_) (λhbf=> ?_) (pend':=pe) (λT'=>T'.takeO T0.objs.length) (λσ' T' w' g' hX fx e=> ?_) (λσ' T' k ok y hX h1 h2 _ h3 h4 h5=>⟨h1,hX.1 k ok y h1 h2 h3 h4 h5⟩) λσ' T' g' w' a' hX inv' e fx hd=>ihf n hlt l _ _ pe σ' T' _ g' w' a' prot hp hX.2 inv' (hG.mono e) (hd.trans hds) (hes.trans e) (hfx.trans hes fx) (by
        have:=fx.len
        simp only [VT.takeO,length_take];omega) hoff
      ·rw [hbt] at h
       simp only [cond_true] at h
       refine VPi.mono (fE hc hrr h) λs T' hk=> ?_
       obtain ⟨hsame,hk⟩:=JI hk
       refine ⟨λk ok y hk hok hwk hpu hrd=> ?_,hk⟩
       rcases hsame with hsame | hsame
       ·exact qD hsame hk hok hwk hpu hrd
       ·exact yw hsame hk hok hwk hpu hrd
      ·rw [hbf] at h
       simp only [cond_false] at h
       exact ⟨λk ok y _ _ _ _ hrd=>gS (T0:=T0) (T:=T.takeO T0.objs.length) (by rw [ht0T];simp) hrd,h⟩
      ·simp only [VT.takeO,length_take]
       rw [List.take_eq_take_iff]
       omega
     ·exact absurd (bu.1 h1) hFj
   ·exact h.elim
  |bar=>
   simp only [bF,and_eq_true,not_eq_true'] at hp
   obtain ⟨⟨⟨⟨hri,hnF⟩,hrd⟩,hanc⟩,hp⟩:=hp
   have hri:=bu.1 hri
   have hF:=dY hnF
   obtain ⟨hun,o,ho,_⟩:=mem_ready.1 hri
   simp only [bW,ho] at h
   replace h:=dq h
   split at h
   ·rename_i b hb
    cases hbx:cG P G ops flo V σ flo with
    |false=>rw [hbx] at h;exact h.elim
    |true=>
     rw [hbx] at h
     simp only [cond_true] at h
     have hnV:=dN hun
     have hle:T0.objs.length≤T.objs.length:=by
      have:=congrArg length inv.t0
      rw [length_take] at this;omega
     refine wait hbx (Array.getElem?_eq_some_iff.1 ho).1 (λhR=>hF (inv.rv i hR hnV)) λj hj hVj hFj n hlt hoff=> ?_
     have h1:=iO hrd (ny inv hj hVj hFj)
     simp only [or_eq_true] at h1
     rcases h1 with h1 | h1
     ·have h1:=eq_of_beq_eq_true h1
      subst h1
      obtain ⟨_,oj,hoj,hdep⟩:=mem_ready.1 hj
      have hpe:∀k∈pend,On R k:=λk hk=>iI inv.cr ops.size j k (all_eq_true.1 hanc k hk) λo' ho' e he hbb=>by
       rw [hoj] at ho';injection ho' with ho';subst ho';exact hdep e he hbb
      refine jC st inv hG ho hj hri hF hb (X:=λσ' T'=>bW P G F call rnd ro ops flo (V.setIfInBounds j true) T' l σ' T' K) (λhbt=>fE hc hrr (by rw [hbt] at h;exact h)) (λhbf=>by rw [hbf] at h;exact h) (pend':= []) (λT'=>T') (λσ' T' w' g' _ fx e=>by simp) (λ_ _ k ok y _ h1 _ h2 _ _ _=>absurd (hpe k h1) h2) λσ' T' g' w' a' hX inv' e fx hd=>ihf n hlt l _ T' [] σ' T' _ g' w' a' prot hp hX inv' (hG.mono e) (hd.trans hds) (hes.trans e) (hfx.trans hes fx) (le_trans (le_trans hro hle) fx.len) hoff
     ·exact absurd (bu.1 h1) hFj
   ·exact h.elim
  |put pe=>
   simp only [bF,and_eq_true,not_eq_true'] at hp
   obtain ⟨⟨⟨⟨hpe,hri⟩,hnF⟩,hrd⟩,hp⟩:=hp
   have hpe:=wI hpe
   subst hpe
   have hri:=bu.1 hri
   have hF:=dY hnF
   obtain ⟨hun,o,ho,_⟩:=mem_ready.1 hri
   simp only [bW,ho] at h
   replace h:=dq h
   split at h
   ·rename_i b hb
    cases hbx:cG P G ops flo V σ flo with
    |false=>rw [hbx] at h;exact h.elim
    |true=>
     rw [hbx] at h
     simp only [cond_true] at h
     have hnV:=dN hun
     have hle:T0.objs.length≤T.objs.length:=by
      have:=congrArg length inv.t0
      rw [length_take] at this;omega
     refine wait hbx (Array.getElem?_eq_some_iff.1 ho).1 (λhR=>hF (inv.rv i hR hnV)) λj hj hVj hFj n hlt hoff=> ?_
     have h1:=iO hrd (ny inv hj hVj hFj)
     simp only [or_eq_true] at h1
     rcases h1 with h1 | h1
     ·have h1:=eq_of_beq_eq_true h1
      subst h1
      have ht0T:T.takeO T0.objs.length=⟨T0.objs,T.tails⟩:=by unfold VT.takeO;rw [inv.t0]
      refine jC st inv hG ho hj hri hF hb (ro:=ro) (X:=λσ' T'=>(T'.objs.length=T.objs.length∧∀k ok y,k∈pe→ops[k]?=some ok→br ops (only ops ok σ) ok=some true→aR P ok.op (aF G (only ops ok σ))=none→aH P T0 ok.op (aF G (only ops ok σ))=some y→aH P (T'.takeO T0.objs.length) ok.op (aF G (only ops ok σ))=some y)∧bW P G F call rnd ro ops flo (V.setIfInBounds j true) (T'.takeO T0.objs.length) l σ' T' K)
       (λhbt=> ?_) (λhbf=> ?_) (pend':=pe) (λT'=>T'.takeO T0.objs.length) (λσ' T' w' g' hX fx e=> ?_) (λσ' T' k ok y hX h1 h2 _ h3 h4 h5=>⟨h1,hX.1.2 k ok y h1 h2 h3 h4 h5⟩) λσ' T' g' w' a' hX inv' e fx hd=>ihf n hlt l _ _ pe σ' T' _ g' w' a' prot hp hX.2 inv' (hG.mono e) (hd.trans hds) (hes.trans e) (hfx.trans hes fx) (by
        have:=hX.1.1
        simp only [VT.takeO,length_take];omega) hoff
      ·rw [hbt] at h
       simp only [cond_true] at h
       split at h
       ·rename_i t ad x hop
        split at h
        ·rename_i id off new had hnew
         split at h
         ·rename_i T1 hT1
          obtain ⟨hpa,h⟩:=sx h
          obtain ⟨hag,hlen⟩:=BO hnew hT1
          refine VPi.of (by rw [hop];rfl) λg w ρ r hρ=> ?_
          have hax:=hρ ad
          rw [had] at hax
          obtain ⟨g',w',k1,k2,k3,k4,k5⟩:=DY (P:=P) r hT1 hax (hρ x)
          refine ⟨.skip,undef,g',w',.val undef,T1,?_,rfl,⟨⟨hlen,λk ok y hk hok hwk hpu hrd=> ?_⟩,h⟩,k2,k3,k4,k5⟩
          ·obtain ⟨dst,op,ty,pos,af,gd⟩:=o
           simp only at hop;subst hop
           simp [execOp,k1]
          ·have hap:=wJ hpa hk hok hwk hpu
           have h6:aH P (T.takeO T0.objs.length) ok.op (aF G (only ops ok σ))=some y:=gS (T0:=T0) (T:=T.takeO T0.objs.length) (by rw [ht0T];simp) hrd
           rw [←Aw (AgreeOut.take hag) hap];exact h6
         ·exact h.elim
        ·exact h.elim
       ·exact h.elim
      ·rw [hbf] at h
       simp only [cond_false] at h
       refine ⟨⟨rfl,λk ok y _ _ _ _ hrd=>gS (T0:=T0) (T:=T.takeO T0.objs.length) (by rw [ht0T];simp) hrd⟩,h⟩
      ·simp only [VT.takeO,length_take,List.take_take,Nat.min_self]
       congr 1
       omega
     ·exact absurd (bu.1 h1) hFj
   ·exact h.elim
  |late=>
   simp only [bF,and_eq_true] at hp
   obtain ⟨⟨⟨hfl,hri⟩,hrd⟩,hp⟩:=hp
   have hri:=bu.1 hri
   obtain ⟨hun,o,ho,_⟩:=mem_ready.1 hri
   have hf:(i,none)∈flo:=by
    obtain ⟨q,hq,h1⟩:=any_eq_true.1 hfl
    simp only [and_eq_true] at h1
    obtain ⟨q1,q2⟩:=q
    have h2:=eq_of_beq_eq_true h1.1
    simp only at h2
    subst h2
    cases q2 with
    |none=>exact hq
    |some _=>cases h1.2
   simp only [bW,ho] at h
   split at h
   ·rename_i y T' hy
    cases hbx:cG P G ops flo V σ flo with
    |false=>rw [hbx] at h;exact h.elim
    |true=>
     rw [hbx] at h
     simp only [cond_true] at h
     have hnV:=dN hun
     by_cases hR:On R i
     ·obtain ⟨o',d,b,h1,h2,h3,blk,f,vo,mk,h4,h5,h6,h7⟩:=inv.flt i none hf hR hnV
      rw [ho] at h1;injection h1 with h1;subst h1
      have h8:=h5 T
      rw [hy] at h8;injection h8 with h8;injection h8 with h8 h9;subst h8 h9
      have hlt:=(Array.getElem?_eq_some_iff.1 ho).1
      obtain ⟨g',prot',inv',e⟩:=sq (V':=V.setIfInBounds i true) (y:=mk T.objs.length) st inv ho hf hri hR (λj hj=>by cases hj) (λk=>⟨λh=>by
        by_cases hik:i=k
        ·exact .inl (.inl hik.symm)
        ·exact .inr (aV hik h),λh=>by
        rcases h with (h | h) | h
        ·subst h;exact iu (by rw [inv.vs];exact hlt)
        ·cases h
        ·exact bN h⟩) (by simpa using inv.vs) (inv.cv.set hri) h3 h4.live (h4.or g w b h6) (λd' u hd' hu g' hg'=>by
        rw [h2] at hd';injection hd' with hd';subst hd'
        rw [h7 u hu]
        exact h4.vr g' w _ b hg' (inv.pr i b h3).2.2.2.2.2 h6)
      exact ih _ T0 pend _ _ R g' w a prot' hp h inv' (hG.mono e) hds (hes.trans e) (hfx.trans hes yR) hro hfu
     ·refine wait hbx (Array.getElem?_eq_some_iff.1 ho).1 hR λj hj hVj hFj n hlt hoff=> ?_
      exact absurd (bu.1 (iO hrd (uG inv hR hj hVj hFj))) hFj
   ·exact h.elim
  |box j=>
   simp only [bF,and_eq_true] at hp
   obtain ⟨⟨⟨⟨hfl,hri⟩,hdj⟩,hrd⟩,hp⟩:=hp
   have hri:=bu.1 hri
   obtain ⟨hun,o,ho,_⟩:=mem_ready.1 hri
   have hf:(i,some j)∈flo:=by
    obtain ⟨q,hq,h1⟩:=any_eq_true.1 hfl
    simp only [and_eq_true] at h1
    obtain ⟨q1,q2⟩:=q
    have h2:=eq_of_beq_eq_true h1.1
    simp only at h2
    subst h2
    cases q2 with
    |none=>cases h1.2
    |some j'=>
     have:=eq_of_beq_eq_true h1.2
     subst this;exact hq
   obtain ⟨o',ho',hlate,hbox⟩:=st.at hf
   rw [ho] at ho';injection ho' with ho';subst ho'
   obtain ⟨oj,hoj,hib,⟨e1,he1,hb1,hon1⟩,_⟩:=hbox j rfl
   simp only [bW,ho,hoj] at h
   split at h
   ·rename_i y T' hy
    cases hbx:cG P G ops flo V σ flo with
    |false=>rw [hbx] at h;exact h.elim
    |true=>
     rw [hbx] at h
     simp only [cond_true] at h
     have hnV:=dN hun
     have hlt:=(Array.getElem?_eq_some_iff.1 ho).1
     have hltj:=(Array.getElem?_eq_some_iff.1 hoj).1
     by_cases hR:On R i∧On R j
     ·obtain ⟨hR,hRj⟩:=hR
      obtain ⟨o',d,b,h1,h2,h3,oj',t,us,inf,h4,h5,h6,h7,h8,h9,h10⟩:=inv.flt i (some j) hf hR hnV
      rw [ho] at h1;injection h1 with h1;subst h1
      rw [hoj] at h4;injection h4 with h4;subst h4
      obtain ⟨new,k1,k2,k3⟩:=h10 hRj
      unfold BH at hy
      rw [k1] at hy
      injection hy with hy;injection hy with hy1 hy2;subst hy1 hy2
      have hji:i<j:=by
       have:=(cY st.flow hoj).1 e1 he1 hb1
       omega
      obtain ⟨g',prot',inv',e⟩:=sq (V':=(V.setIfInBounds i true).setIfInBounds j true) (y:=.ptr T.objs.length 0) (vo:=.cells new) st inv ho hf hri hR (λj' hj'=>by injection hj' with hj';subst hj';exact hRj) (λk=>⟨λh=>by
        by_cases hjk:j=k
        ·exact .inl (.inr (by rw [hjk]))
        ·have h:=aV hjk h
         by_cases hik:i=k
         ·exact .inl (.inl hik.symm)
         ·exact .inr (aV hik h),λh=>by
        rcases h with (h | h) | h
        ·subst h;exact bN (iu (by rw [inv.vs];exact hlt))
        ·injection h with h;subst h;exact iu (by simp [inv.vs];exact hltj)
        ·exact bN (bN h)⟩) (by simpa using inv.vs) (by
        have hc1:=inv.cv.set hri
        intro k ok hk hon e he hb
        by_cases hjk:j=k
        ·subst hjk
         rw [hoj] at hk;injection hk with hk;subst hk
         refine bN ?_
         unfold mQ at hdj
         rw [hoj] at hdj
         have:=all_eq_true.1 hdj e (mem_toList_iff.2 he)
         rw [hb] at this
         simpa only [Bool.not_true,Bool.false_or] using this
        ·exact bN (hc1 k ok hk (aV hjk hon) e he hb)) h3 rfl ⟨us,t,h5,k2,k3⟩ (λd' u hd' hu g' hg'=>by
        rw [h2] at hd';injection hd' with hd';subst hd'
        rw [h6 u hu]
        exact .ptr hg')
      exact ih _ T0 pend _ _ R g' w a prot' hp h inv' (hG.mono e) hds (hes.trans e) (hfx.trans hes yR) hro hfu
     ·have hn:∃i0,i0<ops.size∧¬On R i0:=by
       by_cases h1:On R i
       ·exact ⟨j,hltj,λh2=>hR ⟨h1,h2⟩⟩
       ·exact ⟨i,hlt,h1⟩
      obtain ⟨i0,hi0,hn0⟩:=hn
      have hnj:¬On R j:=λh=>by
       have hRi:=inv.cr j oj hoj h e1 he1 hb1
       rw [hon1] at hRi
       exact hR ⟨hRi,h⟩
      refine wait hbx hi0 hn0 λj' hj hVj hFj n hlt hoff=> ?_
      exact absurd (bu.1 (iO hrd (uG inv hnj hj hVj hFj))) hFj
   ·exact h.elim
theorem BV {α:Type}{b:Bool}{x y:α}(h:cond b (some x) none=some y):b=true∧x=y:=by
 cases b with
 |false=>cases h
 |true=>injection h with h;exact ⟨rfl,h⟩
theorem VInv.start (hσ:VRs g w σ a.tmps.toList)(hr:RW g T w):VInv P G ops flo σ T T (replicate ops.size false) (replicate ops.size false) [] g w a.tmps.toList λ_=>none:=by
 have hoff:∀k,¬On (replicate ops.size false) k:=λk h=>by
  unfold On at h
  rw [Array.getD_eq_getD_getElem?,Array.getElem?_replicate] at h
  split at h<;>simp at h
 refine ⟨by simp,by simp,λk o _ hk=>absurd hk (hoff k),λk o _ hk=>absurd hk (hoff k),λk hk=>absurd hk (hoff k),λk _ hk=>absurd hk (hoff k),λi j _=>⟨λh=>absurd h (hoff i),λh=>absurd h (hoff j)⟩,⟨hσ.1,λs x u hs hu _=>hσ.2 s x u hs hu⟩,λk o _ hk=>absurd hk (hoff k),λi jo _ hk=>absurd hk (hoff i),λk b hk=>(by cases hk),λi j b h=>(by cases h),?_,take_length⟩
 refine hr.lessFr rfl rfl rfl λb hb=> ?_
 rcases hb with hb | ⟨k,hk⟩
 ·exact hb
 ·cases hk
theorem qE {p:List (Nat × FK)}(h:i6 P ops=some p):noSelect ops=true∧VStat P ops (tA P ops)∧bF P ops (tA P ops) (bG (tA P ops)) p (replicate ops.size false) []=true:=by
 unfold i6 oJ yP at h
 obtain ⟨hb,h⟩:=BV h
 simp only [and_eq_true] at hb
 subst h
 obtain ⟨⟨⟨⟨⟨⟨h1,h2⟩,h3⟩,h4⟩,h5⟩,h6⟩,h7⟩:=hb
 exact ⟨h1,⟨h2,DX h2 h3,h4,h6⟩,dO h2 (uH h5) _ _ _ _ (MaskOk.zero _) h7⟩
end
end
section
open Go.RowKit
section
variable {P:Program}{F:Fence}{n:Nat}{ops:Array Oper}
def wK (ops:Array Oper)(t:Oper):Prop:=(∀e∈t.after,binds .any e=true→e.on<ops.size)∧∀listed:Array Bool,Closed ops listed→(∀e∈t.after,binds .any e=true→listed.getD e.on false=true)→∀j,j<ops.size→listed.getD j false=true
theorem nz {t:Oper}(h:jp ops t=true):t.guard.isNone=true:=by
 simp only [jp,and_eq_true] at h
 exact h.1.1
theorem oR {t:Oper}(h:jp ops t=true):wK ops t:=by
 simp only [jp,and_eq_true] at h
 obtain ⟨⟨_,h1⟩,h2⟩:=h
 refine ⟨λe he hb=> ?_,λlisted hc hd j hj=> ?_⟩
 ·have:=all_eq_true.1 h1 e (mem_toList_iff.2 he)
  rw [hb] at this
  simpa [Nat.blt_eq] using this
 ·obtain ⟨e,he,h3⟩:=any_eq_true.1 (all_eq_true.1 h2 j (mem_range.2 hj))
  simp only [and_eq_true,or_eq_true] at h3
  obtain ⟨hb,h3⟩:=h3
  have hon:=hd e (mem_toList_iff.1 he) hb
  rcases h3 with h3 | h3
  ·rw [←eq_of_beq_eq_true h3];exact hon
  ·exact iI hc ops.size e.on j h3 λo' ho' e' he' hb'=>hc e.on o' ho' hon e' he' hb'
theorem Closed.start (ops:Array Oper)(n:Nat):Closed ops (replicate n false):=λk o _ hk=>absurd hk (by
 rw [Array.getD_eq_getD_getElem?,Array.getElem?_replicate]
 split<;>simp)
theorem qF {t:Oper}(hf:cP ops=true)(ht:wK ops t){listed:Array Bool}(hsz:listed.size=ops.size)(hcl:Closed ops listed){i:Nat}(hi:i∈ready .any (ops.push t) (listed.push false)):
  (i<ops.size∧i∈ready .any ops listed)∨(i=ops.size∧∀j,j<ops.size→listed.getD j false=true):=by
 obtain ⟨hun,o,ho,hed⟩:=mem_ready.1 hi
 have hi':i<(ops.push t).size:=(Array.getElem?_eq_some_iff.1 ho).1
 rw [size_push] at hi'
 rw [getElem?_push] at ho
 by_cases h:i=ops.size
 ·right
  refine ⟨h,λj hj=> ?_⟩
  rw [if_pos h] at ho
  obtain rfl:t=o:=Option.some.inj ho
  refine ht.2 listed hcl (λe he hb=> ?_) j hj
  have h2:=hed e he hb
  have h3:=ht.1 e he hb
  rwa [bK _ _ (by omega)] at h2
 ·left
  rw [if_neg h] at ho
  have hlt':i<ops.size:=by omega
  refine ⟨hlt',mem_ready.2 ⟨by rw [bK _ _ (by omega)] at hun;exact hun,o,ho,λe he hb=> ?_⟩⟩
  have h1:=(cY hf ho).1 e he hb
  have h2:=hed e he hb
  rwa [bK _ _ (by omega)] at h2
theorem BW {o:Oper}{a:Act}{w:World}{K:Act→World→Prop}{Q1 Q2:Act→World→Prop}(hh:o.wpIn F n P a w K (b9 Q1)):o.wpIn F n P a w K (b9 Q2):=by
 unfold Oper.wpIn at*
 refine ⟨hh.1,?_⟩
 have hh:=hh.2
 generalize (o.semAt F.round a.eval).run P w=r at*
 have hl:∀{Q:Act→World→Prop},LetsOut (b9 Q)→False:=λh=>by
  obtain ⟨a₀,w₀,h₀⟩:=h;exact h₀
 cases r with
 |ok x w'=>
  cases x<;>simp only [uponIn] at hh ⊢<;>
   first
    |exact hh
    |exact ⟨hh.1,CallsIn.mono hh.2 (λe w'' he=>by cases e<;>first | exact he | exact (hl he).elim)⟩
    |exact ⟨hh.1,RoundIn.mono hh.2 (λe w'' he=>by cases e<;>first | exact he | exact (hl he).elim)⟩
 |halt x w'=>cases x<;>simp only [uponIn] at hh ⊢<;>exact hh.elim
theorem nA {t:Oper}(hf:cP ops=true)(ht:wK ops t){Q:Act→World→Prop}:
    ∀(fuel:Nat) (listed:Array Bool) (a:Act) (w:World),listed.size=ops.size→Closed ops listed→
      wpAnyIn F n P .any ops (b9 λa w=>wpOpIn F n P (ops.push t) (b9 Q) ops.size Q a w) fuel listed a w→
      wpAnyIn F n P .any (ops.push t) (b9 Q) (fuel+1) (listed.push false) a w:=by
  have hdone:∀(listed:Array Bool),listed.size=ops.size→(∀j,j<ops.size→listed.getD j false=true)→
      ready .any (ops.push t) ((listed.push false).setIfInBounds ops.size true)= []:=by
    intro listed hsz hall
    apply List.eq_nil_iff_forall_not_mem.2
    intro i hi
    obtain ⟨hun,o,ho,_⟩:=mem_ready.1 hi
    have hi':i<(ops.push t).size:=(Array.getElem?_eq_some_iff.1 ho).1
    rw [size_push] at hi'
    have:((listed.push false).setIfInBounds ops.size true).getD i true=true:=by
      by_cases h:i=ops.size
      · subst h
        simp
      · rw [getD_set_ne true (Ne.symm h),bK _ _ (by omega)]
        have h3:=hall i (by omega)
        have hb:i<listed.size:=by omega
        simp [hb] at h3 ⊢;exact h3
    rw [this] at hun
    cases hun
  have hlast:∀(fuel:Nat) (listed:Array Bool) (a:Act) (w:World),listed.size=ops.size→(∀j,j<ops.size→listed.getD j false=true)→
      wpOpIn F n P (ops.push t) (b9 Q) ops.size Q a w→wpOpIn F n P (ops.push t) (b9 Q) ops.size (wpAnyIn F n P .any (ops.push t) (b9 Q) fuel ((listed.push false).setIfInBounds ops.size true)) a w:=by
    intro fuel listed a w hsz hall h
    refine wpOpIn_mono (λa' w' hq=> ?_) h
    cases fuel with
    |zero=>exact ⟨hdone listed hsz hall,hq⟩
    |succ k=>exact ⟨λ_=>hq,λi hi=>by rw [hdone listed hsz hall] at hi;cases hi⟩
  have hnot:∀(listed:Array Bool),listed.size=ops.size→(∀j,j<ops.size→listed.getD j false=true)→ops.size∈ready .any (ops.push t) (listed.push false):=by
    intro listed hsz hall
    refine mem_ready.2 ⟨?_,t,by simp,λe he hb=> ?_⟩
    · simp [←hsz]
    · have h1:=ht.1 e he hb
      rw [bK _ _ (by omega)]
      exact hall e.on h1
  intro fuel
  induction fuel with
  |zero=>
    intro listed a w hsz hcl h
    have hall:=iE hf hsz h.1
    refine ⟨λh0=> ?_,λi hi=> ?_⟩
    · have:=hnot listed hsz hall
      rw [h0] at this;cases this
    · rcases qF hf ht hsz hcl hi with ⟨h1,h2⟩ | ⟨rfl,h2⟩
      · rw [h.1] at h2;cases h2
      · exact hlast 0 listed a w hsz hall h.2
  |succ fuel ih=>
    intro listed a w hsz hcl h
    refine ⟨λh0=> ?_,λi hi=> ?_⟩
    · have hr:ready .any ops listed= []:=by
        apply List.eq_nil_iff_forall_not_mem.2
        intro i hi
        have hi2:i∈ready .any (ops.push t) (listed.push false):=by
          obtain ⟨hun,o,ho,hed⟩:=mem_ready.1 hi
          have hlt:i<ops.size:=(Array.getElem?_eq_some_iff.1 ho).1
          refine mem_ready.2 ⟨by rw [bK _ _ (by omega)];exact hun,o,by rw [getElem?_push,if_neg (by omega)];exact ho,λe he hb=> ?_⟩
          have:=(cY hf ho).1 e he hb
          rw [bK _ _ (by omega)]
          exact hed e he hb
        rw [h0] at hi2;cases hi2
      have:=hnot listed hsz (iE hf hsz hr)
      rw [h0] at this;cases this
    · rcases qF hf ht hsz hcl hi with ⟨h1,h2⟩ | ⟨rfl,h2⟩
      · have h3:=h.2 i h2
        obtain ⟨_,o,ho,_⟩:=mem_ready.1 h2
        rw [vN (by omega)]
        unfold wpOpIn at h3 ⊢
        rw [getElem?_push,if_neg (by omega)]
        simp only [ho] at h3 ⊢
        rw [qp hf t ho]
        split at h3
        · rename_i hw
          rw [if_pos hw]
          exact BW (Oper.wpIn_mono (λa' w' hq=>ih (listed.setIfInBounds i true) a' w' (by simpa using hsz) (hcl.set h2) hq) h3)
        · rename_i hw
          rw [if_neg hw]
          exact ⟨h3.1,ih (listed.setIfInBounds i true) _ w (by simpa using hsz) (hcl.set h2) h3.2⟩
      · have hr:ready .any ops listed= []:=by
          apply List.eq_nil_iff_forall_not_mem.2
          intro j hj
          obtain ⟨hun,o,ho,_⟩:=mem_ready.1 hj
          have hlt:j<ops.size:=(Array.getElem?_eq_some_iff.1 ho).1
          have h3:=h2 j hlt
          have hb:j<listed.size:=by omega
          simp [hb] at h3 hun
          rw [h3] at hun;cases hun
        exact hlast _ listed a w hsz h2 (h.1 hr)
theorem gE (n:Nat):replicate (n+1) false=(replicate n false).push false:=Array.replicate_succ
end
end
section
open Go.RowKit
section
variable {P:Program}{G:aC}{F:iJ}{ops:Array Oper}{r:Option Nat}{σ:List TV}{T T0:VT}{V R:Array Bool}{pend:List Nat}{g:Gh}{w:World}{a:Act}{prot:Nat→Option Nat}
theorem yS:∀{l:List Nat} {p:Nat→Prop},DS l p→∀{i},i∈l→p i
 |j::l,p,h,i,hi=>by
  rcases mem_cons.1 hi with rfl | hi
  ·exact h.1
  ·exact yS h.2 hi
theorem qG:∀{l:List Nat} {i:Nat},kC P ops l=some i→i∈l
 |j::l,i,h=>by
  unfold kC at h
  have key:∀b,cond b (some j) (kC P ops l)=some i→i∈j::l:=λb h=>by
   cases b with
   |true=>injection h with h;subst h;exact mem_cons_self
   |false=>exact mem_cons_of_mem _ (qG h)
  exact key _ h
theorem AB {i:Nat}:∀k∈pend,k∈fW P ops i pend:=λk hk=>by
 unfold fW
 split
 ·rename_i o _
  cases isRead P o.op
  ·exact hk
  ·exact mem_cons_of_mem _ hk
 ·exact hk
theorem qH {i:Nat}{o:Oper}(ho:ops[i]?=some o)(h:isRead P o.op=true):i∈fW P ops i pend:=by
 unfold fW
 simp only [ho,h,cond_true]
 exact mem_cons_self
theorem Gt {call:eO}{rnd:fX}(hc:dM P G call)(hrr:eP P G rnd)(st:VStat P ops [])(hnd:∀(j:Nat) o,ops[j]?=some o→bI o.op=true){ro:Nat}{K:List TV→VT→Prop}{gs:Gh}{Ts:VT}{ws:World}{ds:List Deferred}{QQ:Act→World→Prop}
  (hq:∀σ' T' g' w' (a':Act),K σ' T'→Evo gs ws g' w'→RW g' T' w'→VRs g' w' σ' a'.tmps.toList→a'.defers=ds→Fix ro gs Ts ws T' w'→QQ a' w'):
  ∀(fuel n:Nat) (V:Array Bool) (T0:VT) (pend:List Nat) (σ:List TV) (T:VT) (R:Array Bool) (g:Gh) (w:World) (a:Act) (prot:Nat→Option Nat),
   g9 P G F call rnd ro ops n V T0 pend σ T K→VInv P G ops [] σ T T0 V R pend g w a.tmps.toList prot→GOk G g w→a.defers=ds→Evo gs ws g w→Fix ro gs Ts ws T w→ro≤T0.objs.length→iM R≤fuel→
   wpAnyIn (bR r) 0 P .any ops (b9 QQ) fuel R a w:=by
 intro fuel
 induction fuel using Nat.strongRecOn with
 |_ fuel ihf=>
 have done:∀(n:Nat) (V:Array Bool) (T0:VT) (pend:List Nat) (σ:List TV) (T:VT) (R:Array Bool) (g:Gh) (w:World) (a:Act) (prot:Nat→Option Nat),ready .any ops V= []→K σ T→g9 P G F call rnd ro ops n V T0 pend σ T K→
   VInv P G ops [] σ T T0 V R pend g w a.tmps.toList prot→GOk G g w→a.defers=ds→Evo gs ws g w→Fix ro gs Ts ws T w→ro≤T0.objs.length→iM R≤fuel→wpAnyIn (bR r) 0 P .any ops (b9 QQ) fuel R a w:=by
  intro n V T0 pend σ T R g w a prot hp hk h inv hG hds hes hfx hro hfu
  have hallV:∀i,i<ops.size→On V i:=kY st.flow inv.vs hp
  by_cases hall:∀i,i<ops.size→On R i
  ·refine sw (oQ hall) (hq σ T g w a hk hes inv.base ⟨inv.rel.1,λs x u hs hu=>inv.rel.2 s x u hs hu λk o hk _=> ?_⟩ hds hfx) _
   have hlt:=(Array.getElem?_eq_some_iff.1 hk).1
   exact ⟨hallV k hlt,hall k hlt⟩
  ·obtain ⟨i,hi⟩:=not_forall.1 hall
   obtain ⟨hi,hn⟩:=Classical.not_imp.1 hi
   refine ke st.flow inv.rs hi hn hfu λm hlt j hj hoff=> ?_
   obtain ⟨_,o,ho,_⟩:=mem_ready.1 hj
   exact lO st inv hG hj (hallV j (Array.getElem?_eq_some_iff.1 ho).1) λg' w' a' inv' e fx hd=>ihf m hlt n V T0 pend σ T _ g' w' a' prot h inv' (hG.mono e) (hd.trans hds) (hes.trans e) (hfx.trans hes (fx ro)) hro hoff
 intro n
 induction n with
 |zero=>
  intro V T0 pend σ T R g w a prot h inv hG hds hes hfx hro hfu
  have h0:=h
  unfold g9 at h
  split at h
  ·rename_i hp
   exact done 0 V T0 pend σ T R g w a prot hp h h0 inv hG hds hes hfx hro hfu
  ·exact h.elim
 |succ n ih=>
  intro V T0 pend σ T R g w a prot h inv hG hds hes hfx hro hfu
  have h0:=h
  unfold g9 at h
  split at h
  ·rename_i hp
   exact done (n+1) V T0 pend σ T R g w a prot hp h h0 inv hG hds hes hfx hro hfu
  ·rename_i i0 r0 hp
   have hnF:∀k,k∉bG ([]:List (Nat × Option Nat)):=λk h=>by cases h
   split at h
   ·--its own:reckoned at once
    rename_i i hi
    have hri:i∈ready .any ops V:=by rw [hp];exact qG hi
    obtain ⟨_,o,ho,_⟩:=mem_ready.1 hri
    simp only [ho] at h
    replace h:=dq h
    have go:∀{y},((br ops (only ops o σ) o=some false∧y=.val undef)∨(br ops (only ops o σ) o=some true∧(iL P G ⟨[],[]⟩ o (only ops o σ) y∨(i∈fW P ops i pend∧aR P o.op (aF G (only ops o σ))=none∧aH P T0 o.op (aF G (only ops o σ))=some y))))→
      g9 P G F call rnd ro ops n (V.setIfInBounds i true) T0 (fW P ops i pend) (aW σ o.dst y) T K→wpAnyIn (bR r) 0 P .any ops (b9 QQ) fuel R a w:=λhow h=>
     ih _ T0 _ _ T R g w a prot h (wG st inv ho hri (hnF i) (hnd i o ho) AB how) hG hds hes hfx hro hfu
    split at h
    ·rename_i b hb
     cases b with
     |true=>
      simp only [cond_true] at h
      split at h
      ·rename_i y hy
       obtain ⟨hpu,h⟩:=h
       rcases uC hpu with h1 | ⟨h1,h2,h3⟩
       ·exact go (.inr ⟨hb,.inl h1⟩) h
       ·exact go (.inr ⟨hb,.inr ⟨qH ho h1,h2,h3⟩⟩) h
      ·exact h.elim
      ·split at h
       ·rename_i y hy
        rcases uD hy with h1 | ⟨h1,h2,h3⟩
        ·exact go (.inr ⟨hb,.inl h1⟩) h
        ·exact go (.inr ⟨hb,.inr ⟨qH ho h1,h2,h3⟩⟩) h
       ·exact h.elim
     |false=>
      simp only [cond_false] at h
      exact go (.inl ⟨hb,rfl⟩) h
    ·exact h.elim
   ·--one of some
    have hr0:i0∈ready .any ops V:=by rw [hp];exact mem_cons_self
    obtain ⟨hun0,o0,ho0,_⟩:=mem_ready.1 hr0
    have hnR0:¬On R i0:=λhR=>hnF i0 (inv.rv i0 hR (dN hun0))
    refine ke st.flow inv.rs (Array.getElem?_eq_some_iff.1 ho0).1 hnR0 hfu λm hlt i hi hoff=> ?_
    by_cases hVi:On V i
    ·exact lO st inv hG hi hVi λg' w' a' inv' e fx hd=>ihf m hlt (n+1) V T0 pend σ T _ g' w' a' prot h0 inv' (hG.mono e) (hd.trans hds) (hes.trans e) (hfx.trans hes (fx ro)) hro hoff
    ·have hri:i∈ready .any ops V:=ny inv hi hVi (hnF i)
     replace h:=yS h (by rw [hp] at hri;exact hri)
     obtain ⟨_,o,ho,_⟩:=mem_ready.1 hri
     simp only [ho] at h
     replace h:=dq h
     have hle:T0.objs.length≤T.objs.length:=by
      have:=congrArg length inv.t0
      rw [length_take] at this;omega
     split at h
     ·rename_i b hb
      cases hpw:E1 ops i pend with
      |true=>
       rw [hpw] at h
       simp only [cond_true] at h
       obtain ⟨_,oj,hoj,hdep⟩:=mem_ready.1 hi
       have hpe:∀k∈pend,On R k:=λk hk=>iI inv.cr ops.size i k (all_eq_true.1 hpw k hk) λo' ho' e he hbb=>by
        rw [hoj] at ho';injection ho' with ho';subst ho';exact hdep e he hbb
       exact jC st inv hG ho hi hri (hnF i) hb (X:=λσ' T'=>g9 P G F call rnd ro ops n (V.setIfInBounds i true) T' [] σ' T' K) (λhbt=>fE hc hrr (by rw [hbt] at h;exact h)) (λhbf=>by rw [hbf] at h;exact h) (pend':= []) (λT'=>T') (λσ' T' w' g' _ fx e=>by simp) (λ_ _ k ok y _ h1 _ h2 _ _ _=>absurd (hpe k h1) h2) λσ' T' g' w' a' hX inv' e fx hd=>ihf m hlt n _ T' [] σ' T' _ g' w' a' prot hX inv' (hG.mono e) (hd.trans hds) (hes.trans e) (hfx.trans hes fx) (le_trans (le_trans hro hle) fx.len) hoff
      |false=>
       rw [hpw] at h
       simp only [cond_false] at h
       have ht0T:T.takeO T0.objs.length=⟨T0.objs,T.tails⟩:=by unfold VT.takeO;rw [inv.t0]
       refine jC st inv hG ho hi hri (hnF i) hb (ro:=ro) (X:=λσ' T'=>(∀k ok y,k∈pend→ops[k]?=some ok→br ops (only ops ok σ) ok=some true→aR P ok.op (aF G (only ops ok σ))=none→aH P T0 ok.op (aF G (only ops ok σ))=some y→aH P (T'.takeO T0.objs.length) ok.op (aF G (only ops ok σ))=some y)∧g9 P G F call rnd ro ops n (V.setIfInBounds i true) (T'.takeO T0.objs.length) pend σ' T' K)
        (λhbt=> ?_) (λhbf=> ?_) (pend':=pend) (λT'=>T'.takeO T0.objs.length) (λσ' T' w' g' hX fx e=> ?_) (λσ' T' k ok y hX h1 h2 _ h3 h4 h5=>⟨h1,hX.1 k ok y h1 h2 h3 h4 h5⟩) λσ' T' g' w' a' hX inv' e fx hd=>ihf m hlt n _ _ pend σ' T' _ g' w' a' prot hX.2 inv' (hG.mono e) (hd.trans hds) (hes.trans e) (hfx.trans hes fx) (by
         have:=fx.len
         simp only [VT.takeO,length_take];omega) hoff
       ·rw [hbt] at h
        simp only [cond_true] at h
        exact VPi.mono (fE hc hrr h) λs T' hk=>⟨λk ok y hk1 hok hwk hpu hrd=>qD hk.1 hk1 hok hwk hpu hrd,hk.2⟩
       ·rw [hbf] at h
        simp only [cond_false] at h
        exact ⟨λk ok y _ _ _ _ hrd=>gS (T0:=T0) (T:=T.takeO T0.objs.length) (by rw [ht0T];simp) hrd,h⟩
       ·simp only [VT.takeO,length_take]
        rw [List.take_eq_take_iff]
        omega
     ·exact h.elim
end
end
section
open Go.RowKit
section
variable {P:Program}{G:aC}{F:iJ}
theorem Fix.of_min {ro:Nat}{g:Gh}{T T':VT}{w w':World}(h:Fix (min ro T.objs.length) g T w T' w'):Fix ro g T w T' w':=
 ⟨h.len,λi hi hl=>h.same i (by omega) hl,λi o b hi ho=>h.heap i o b (by have:=(List.getElem?_eq_some_iff.1 ho).1;omega) ho⟩
theorem wL {ops:Array Oper}{p:List (Oper × PK)}(h:tB P ops=some p):i5 P ops=some p:=by
 unfold tB at h
 split at h
 ·rename_i q hq
  cases hb:(Ar q&&(i6 P ops).isSome) with
  |true=>rw [hb] at h;cases h
  |false=>rw [hb] at h;rw [hq];exact h
 ·cases h
theorem wM {ops:Array Oper}{p:List (Oper × PK)}(h:tC P F ops=some p):i5 P ops=some p:=by
 unfold tC at h
 cases hb:(F ⟨some 999999,.move (.tmp 0),0, "",#[],none⟩ [] ⟨[],[]⟩).isSome with
 |true=>rw [hb] at h;exact h
 |false=>
  rw [hb,cond_false] at h
  cases hs:ble ops.size 12 with
  |true=>rw [hs] at h;exact wL h
  |false=>rw [hs] at h;cases h
theorem BX {call:eO}{rnd:fX}(hc:dM P G call)(hrr:eP P G rnd)(hm:P.follows .mixedOrders=true){ro id:Nat}{ops:Array Oper}{σ:List TV}{T:VT}{D:List Nat}{Q:KX}(hnd:∀(j:Nat) o,ops[j]?=some o→bI o.op=true)
  (h:wA P G F call rnd (min ro T.objs.length) ops σ T λσ T=>Q .normal σ T D) {r:Option Nat} {g:Gh} {w:World} {a:Act} (rw0:RW g T w) (hG:GOk G g w) (hσ:VRs g w σ a.tmps.toList) (hd:a.defers=D.map (mk g)) (hD:∀id∈D,(g.obj id).isSome=true):
  (Code.region id ops true).wpIn (bR r) 0 P (λe a' w'=>∃g' σ' T' D',Q e σ' T' D'∧Evo g w g' w'∧RW g' T' w'∧VRs g' w' σ' a'.tmps.toList∧a'.defers=D'.map (mk g')∧(∀id∈D',(g'.obj id).isSome=true)∧Fix ro g T w T' w') a w:=by
 unfold wA at h
 split at h
 ·rename_i t2 t1 l hl
  obtain rfl:ops=(l.reverse.toArray.push t1).push t2:=by
   have:=congrArg List.reverse hl
   rw [List.reverse_reverse] at this
   apply Array.toList_inj.1
   rw [this]
   simp
  generalize l.reverse.toArray=zs at*
  cases hb:(jp zs t1&&jp (zs.push t1) t2&&cP (zs.push t1)&&cP zs&&kS zs) with
  |false=>rw [hb] at h;exact h.elim
  |true=>
   rw [hb] at h
   simp only [cond_true] at h
   simp only [and_eq_true] at hb
   obtain ⟨⟨⟨⟨h1,h2⟩,f1⟩,f0'⟩,ho⟩:=hb
   have g1:=nz h1
   have g2:=nz h2
   have st:VStat P zs []:=⟨f0',ho,rfl,rfl⟩
   have e0:=Evo.of_gr rw0 (Gr.refl w).drew
   have f0:Fix (min ro T.objs.length) g T w T w.drew:=Fix.of_same (Same.of_gr rw0 (Gr.refl w).drew) take_length
   have r1:RW g T w.drew:=rw0.drew
   have hw:∀(t:Oper) (zz:Array Oper) (tm:Array Value),t.guard.isNone=true→wanted t (yielded zz tm)=true:=λt zz tm hg=>by
    unfold wanted
    rw [Option.isNone_iff_eq_none.1 hg]
   have key:=Gt (r:=r) hc hrr st (λj o hj=>hnd j o (by
     have hlt:=(Array.getElem?_eq_some_iff.1 hj).1
     rw [getElem?_push,if_neg (by simp;omega),getElem?_push,if_neg (by omega)];exact hj)) (ro:=min ro T.objs.length) (K:=λσ1 T1=>fY P G F call rnd (min ro T.objs.length) t1 σ1 T1 λσ1 T1=>fY P G F call rnd (min ro T.objs.length) t2 σ1 T1 λσ T=>Q .normal σ T D) (gs:=g) (Ts:=T) (ws:=w) (ds:=a.defers)
    (QQ:=λa' w'=>wpOpIn (bR r) 0 P (zs.push t1) (b9 λa' w'=>wpOpIn (bR r) 0 P ((zs.push t1).push t2) (b9 λa' w'=>∃g' σ' T' D',Q .normal σ' T' D'∧Evo g w g' w'∧RW g' T' w'∧VRs g' w' σ' a'.tmps.toList∧a'.defers=D'.map (mk g')∧(∀id∈D',(g'.obj id).isSome=true)∧Fix ro g T w T' w') (zs.push t1).size (λa' w'=>∃g' σ' T' D',Q .normal σ' T' D'∧Evo g w g' w'∧RW g' T' w'∧VRs g' w' σ' a'.tmps.toList∧a'.defers=D'.map (mk g')∧(∀id∈D',(g'.obj id).isSome=true)∧Fix ro g T w T' w') a' w') zs.size
     (λa' w'=>wpOpIn (bR r) 0 P ((zs.push t1).push t2) (b9 λa' w'=>∃g' σ' T' D',Q .normal σ' T' D'∧Evo g w g' w'∧RW g' T' w'∧VRs g' w' σ' a'.tmps.toList∧a'.defers=D'.map (mk g')∧(∀id∈D',(g'.obj id).isSome=true)∧Fix ro g T w T' w') (zs.push t1).size (λa' w'=>∃g' σ' T' D',Q .normal σ' T' D'∧Evo g w g' w'∧RW g' T' w'∧VRs g' w' σ' a'.tmps.toList∧a'.defers=D'.map (mk g')∧(∀id∈D',(g'.obj id).isSome=true)∧Fix ro g T w T' w') a' w') a' w')
    (λσ' T' g' w' a' hk e r' hσ' hd' hx=>by
     unfold wpOpIn
     simp only [getElem?_push,if_true,hw t1 _ _ g1]
     refine fE hc hrr hk r g' w' a' _ _ r' (hG.mono e) hσ' λσ'' T'' g'' w'' a'' _ hk' e' r'' hσ'' hd'' hx'=> ?_
     rw [if_pos (hw t2 _ _ g2)]
     exact fE hc hrr hk' r g'' w'' a'' _ _ r'' (hG.mono (e.trans e')) hσ'' λσ3 T3 g3 w3 a3 _ hk3 e3 r3 hσ3 hd3 hx3=>⟨g3,σ3,T3,D,hk3,(e.trans e').trans e3,r3,hσ3,by rw [hd3,hd'',hd',hd,jz ((e.trans e').trans e3) hD],dX ((e.trans e').trans e3) hD,((hx.trans e hx').trans (e.trans e') hx3).of_min⟩)
    zs.size zs.size (replicate zs.size false) T [] σ T (replicate zs.size false) g w.drew a (λ_=>none) h (VInv.start (hσ.mono e0) r1) (hG.mono e0) rfl e0 f0 (min_le_right _ _) (by
     unfold iM
     rw [Array.toList_replicate]
     exact le_trans List.count_le_length (by simp))
   have key2:=nA st.flow (oR h1) _ _ _ _ (by simp) (Closed.start _ _) key
   have key3:=nA f1 (oR h2) _ _ _ _ (by simp) (by rw [←gE];exact Closed.start _ _) key2
   refine wpIn_mono (wpIn_region_any hm (by rw [size_push,size_push,gE,gE];exact key3)) ?_
   intro e a' w' hq
   cases e<;>first | exact hq | exact hq.elim
 ·exact h.elim
theorem DZ {call:eO}{rnd:fX}(hc:dM P G call)(hrr:eP P G rnd)(hm:P.follows .mixedOrders=true){rd:Option Nat}{ro id:Nat}{ops:Array Oper}{σ:List TV}{T:VT}{D:List Nat}{Q:KX}
  (h:As P G F call rnd ro ops σ T λσ T=>Q .normal σ T D):VWx P G rd ro (.region id ops true) σ T D Q:=by
 intro r g w a rw0 hG hσ hd hD hrd
 unfold As at h
 cases hb:wv ops with
 |false=>rw [hb] at h;exact h.elim
 |true=>
  rw [hb] at h
  simp only [cond_true] at h
  have hnd:∀(j:Nat) o,ops[j]?=some o→bI o.op=true:=λj o ho=>by
   obtain ⟨hlt,he⟩:=Array.getElem?_eq_some_iff.1 ho
   exact all_eq_true.1 hb o (by rw [←he];exact mem_toList_iff.2 (Array.getElem_mem hlt))
  have old:∀p,i5 P ops=some p→dv P G F call rnd ro ops T false p σ T (λσ T=>Q .normal σ T D)→(Code.region id ops true).wpIn (bR r) 0 P (λe a' w'=>∃g' σ' T' D',Q e σ' T' D'∧Evo g w g' w'∧RW g' T' w'∧VRs g' w' σ' a'.tmps.toList∧a'.defers=D'.map (mk g')∧(∀id∈D',(g'.obj id).isSome=true)∧Fix ro g T w T' w') a w:=λp hp h=>by
   unfold i5 at hp
   split at hp
   ·rename_i pl hpl
    cases hk:(noSelect ops&&beq pl.length ops.size&&kx ops pl (replicate ops.size false)) with
    |false=>rw [hk] at hp;cases hp
    |true=>
     rw [hk] at hp
     simp only [and_eq_true] at hk
     obtain ⟨⟨hns,hlen⟩,hchk⟩:=hk
     have hlen:=eq_of_beq_eq_true hlen
     injection hp with hp;subst hp
     have e0:=Evo.of_gr rw0 (Gr.refl w).drew
     have f0:Fix (min ro T.objs.length) g T w T w.drew:=Fix.of_same (Same.of_gr rw0 (Gr.refl w).drew) take_length
     have r1:RW g T w.drew:=rw0.drew
     have key:=fb (r:=r) hc hrr hnd (Region.noSelect_spec hns) (Nat.min_le_left ro T.objs.length) (K:=λσ T=>Q .normal σ T D) (gs:=g) (Ts:=T) (ws:=w) (ds:=a.defers)
      (QQ:=λa' w'=>∃g' σ' T' D',Q .normal σ' T' D'∧Evo g w g' w'∧RW g' T' w'∧VRs g' w' σ' a'.tmps.toList∧a'.defers=D'.map (mk g')∧(∀id∈D',(g'.obj id).isSome=true)∧Fix ro g T w T' w')
      (λσ' T' g' w' a' hk e r' hσ' hd' hx=>⟨g',σ',T',D,hk,e,r',hσ',by rw [hd',hd,jz e hD],dX e hD,hx.of_min⟩)
      pl (replicate ops.size false) T false σ T hchk h g w.drew g w.drew a r1 (hG.mono e0) r1 (hσ.mono e0) rfl (Evo.refl _ _) (Same.refl _ _ _) take_length (λ_=>⟨rfl,rfl,rfl⟩) e0 f0 (min_le_right _ _)
      (λk o _ hk=>absurd hk (by
       rw [Array.getD_eq_getD_getElem?,Array.getElem?_replicate]
       split<;>simp)) (by simp)
     rw [hlen] at key
     refine wpIn_mono (wpIn_region_any hm (r9 _ _ _ _ key)) ?_
     intro e a' w' hq
     cases e<;>first | exact hq | exact hq.elim
   ·cases hp
  split at h
  ·rename_i p hp
   exact old p (wM hp) h
  ·split at h
   ·rename_i p hp
    obtain ⟨hns,st,hchk⟩:=qE hp
    have e0:=Evo.of_gr rw0 (Gr.refl w).drew
    have f0:Fix (min ro T.objs.length) g T w T w.drew:=Fix.of_same (Same.of_gr rw0 (Gr.refl w).drew) take_length
    have r1:RW g T w.drew:=rw0.drew
    have key:=uJ (r:=r) hc hrr st (K:=λσ T=>Q .normal σ T D) (gs:=g) (Ts:=T) (ws:=w) (ds:=a.defers)
     (QQ:=λa' w'=>∃g' σ' T' D',Q .normal σ' T' D'∧Evo g w g' w'∧RW g' T' w'∧VRs g' w' σ' a'.tmps.toList∧a'.defers=D'.map (mk g')∧(∀id∈D',(g'.obj id).isSome=true)∧Fix ro g T w T' w')
     (λσ' T' g' w' a' hk e r' hσ' hd' hx=>⟨g',σ',T',D,hk,e,r',hσ',by rw [hd',hd,jz e hD],dX e hD,hx.of_min⟩)
     ops.size p (replicate ops.size false) T [] σ T (replicate ops.size false) g w.drew a (λ_=>none) hchk h (VInv.start (hσ.mono e0) r1) (hG.mono e0) rfl e0 f0 (min_le_right _ _) (by
      unfold iM
      rw [Array.toList_replicate]
      exact le_trans List.count_le_length (by simp))
    refine wpIn_mono (wpIn_region_any hm key) ?_
    intro e a' w' hq
    cases e<;>first | exact hq | exact hq.elim
   ·split at h
    ·rename_i p hp
     exact old p hp h
    ·split at h
     ·rename_i t p hl hp
      obtain ⟨ys,hys⟩:=List.getLast?_eq_some_iff.1 hl
      obtain rfl:ops=ys.toArray.push t:=by
       have:=congrArg List.toArray hys
       simpa using this
      have hcut:(ys.toArray.push t).toList.dropLast.toArray=ys.toArray:=by simp
      rw [hcut] at hp h
      cases hb2:jp ys.toArray t with
      |false=>rw [hb2] at h;exact h.elim
      |true=>
       rw [hb2] at h
       simp only [cond_true] at h
       have hgd:=nz hb2
       obtain ⟨hns,st,hchk⟩:=qE hp
       have e0:=Evo.of_gr rw0 (Gr.refl w).drew
       have f0:Fix (min ro T.objs.length) g T w T w.drew:=Fix.of_same (Same.of_gr rw0 (Gr.refl w).drew) take_length
       have r1:RW g T w.drew:=rw0.drew
       have key:=uJ (r:=r) hc hrr st (K:=λσ' T'=>fY P G F call rnd (min ro T.objs.length) t σ' T' λσ T=>Q .normal σ T D) (gs:=g) (Ts:=T) (ws:=w) (ds:=a.defers)
        (QQ:=λa' w'=>wpOpIn (bR r) 0 P (ys.toArray.push t) (b9 λa' w'=>∃g' σ' T' D',Q .normal σ' T' D'∧Evo g w g' w'∧RW g' T' w'∧VRs g' w' σ' a'.tmps.toList∧a'.defers=D'.map (mk g')∧(∀id∈D',(g'.obj id).isSome=true)∧Fix ro g T w T' w') ys.toArray.size
         (λa' w'=>∃g' σ' T' D',Q .normal σ' T' D'∧Evo g w g' w'∧RW g' T' w'∧VRs g' w' σ' a'.tmps.toList∧a'.defers=D'.map (mk g')∧(∀id∈D',(g'.obj id).isSome=true)∧Fix ro g T w T' w') a' w')
        (λσ' T' g' w' a' hk e r' hσ' hd' hx=>by
         unfold wpOpIn
         have hw:wanted t (yielded (ys.toArray.push t) a'.tmps)=true:=by
          unfold wanted
          rw [Option.isNone_iff_eq_none.1 hgd]
         simp only [getElem?_push,if_true,hw]
         exact fE hc hrr hk r g' w' a' _ _ r' (hG.mono e) hσ' λσ'' T'' g'' w'' a'' _ hk' e' r'' hσ'' hd'' hx'=>⟨g'',σ'',T'',D,hk',e.trans e',r'',hσ'',by rw [hd'',hd',hd,jz (e.trans e') hD],dX (e.trans e') hD,(hx.trans e hx').of_min⟩)
        ys.toArray.size p (replicate ys.toArray.size false) T [] σ T (replicate ys.toArray.size false) g w.drew a (λ_=>none) hchk h (VInv.start (hσ.mono e0) r1) (hG.mono e0) rfl e0 f0 (min_le_right _ _) (by
         unfold iM
         rw [Array.toList_replicate]
         exact le_trans List.count_le_length (by simp))
       have key2:=nA st.flow (oR hb2) _ _ _ _ (by simp) (Closed.start _ _) key
       refine wpIn_mono (wpIn_region_any hm (by rw [size_push,gE];exact key2)) ?_
       intro e a' w' hq
       cases e<;>first | exact hq | exact hq.elim
     ·exact BX hc hrr hm hnd h rw0 hG hσ hd hD
theorem VWx.here {rd:Option Nat}{ro:Nat}{c:Code}{σ:List TV}{T:VT}{D:List Nat}{Q:KX}{e:Exit}(h:Q e σ T D)(k:∀(F:Fence) (a:Act) w,∀R:Exit→Act→World→Prop,R e a w→c.wpIn F 0 P R a w):VWx P G rd ro c σ T D Q:=
 λr g w a rw0 hG hσ hd hD _=>k _ a w _ ⟨g,σ,T,D,h,Evo.refl g w,rw0,hσ,hd,hD,Fix.refl _ _ _ _⟩
theorem VWx.seq {rd:Option Nat}{ro:Nat}{x y:Code}{σ:List TV}{T:VT}{D:List Nat}{Q:KX}(h:VWx P G rd ro x σ T D (nt (λσ T D=>VWx P G rd ro y σ T D Q) Q)):VWx P G rd ro (.seq x y) σ T D Q:=by
 intro r g w a rw0 hG hσ hd hD hrd
 refine wpIn_seq (wpIn_mono (h r g w a rw0 hG hσ hd hD hrd) ?_)
 rintro e a' w' ⟨g',σ',T',D',hq,e1,r',hσ',hd',hD',hx⟩
 cases e<;>first
  |exact ⟨g',σ',T',D',hq,e1,r',hσ',hd',hD',hx⟩
  |exact wpIn_mono (hq r g' w' a' r' (hG.mono e1) hσ' hd' hD' (wl e1 hrd)) λe a'' w'' ⟨g'',σ'',T'',D'',hq',e2,r2,s2,d2,dd2,x2⟩=>⟨g'',σ'',T'',D'',hq',e1.trans e2,r2,s2,d2,dd2,hx.trans e1 x2⟩
theorem VWx.block {rd:Option Nat}{ro id:Nat}{c:Code}{σ:List TV}{T:VT}{D:List Nat}{Q:KX}(h:VWx P G rd ro c σ T D (oL id Q)):VWx P G rd ro (.block id c) σ T D Q:=by
 intro r g w a rw0 hG hσ hd hD hrd
 refine wpIn_block (wpIn_mono (h r g w a rw0 hG hσ hd hD hrd) ?_)
 rintro e a' w' ⟨g',σ',T',D',hq,h⟩
 cases e with
 |exit id'=>
  simp only [Exit.inBlock]
  simp only [oL] at hq
  cases hb:beq id' id with
  |true=>
   rw [hb] at hq
   rw [if_pos (eq_of_beq_eq_true hb)];exact ⟨g',σ',T',D',hq,h⟩
  |false=>
   rw [hb] at hq
   rw [if_neg (Nat.ne_of_beq_eq_false hb)];exact ⟨g',σ',T',D',hq,h⟩
 |normal=>exact ⟨g',σ',T',D',hq,h⟩
 |goto l=>exact ⟨g',σ',T',D',hq,h⟩
 |ret=>exact ⟨g',σ',T',D',hq,h⟩
 |panic ch=>exact ⟨g',σ',T',D',hq,h⟩
 |outgrown=>exact ⟨g',σ',T',D',hq,h⟩
theorem VWx.cond {rd:Option Nat}{ro:Nat}{c:Operand}{x y:Code}{σ:List TV}{T:VT}{D:List Nat}{Q:KX}{b:Bool}(hc:aF G σ c=.val (.bool b))(ht:b=true→VWx P G rd ro x σ T D Q)(hf:b=false→VWx P G rd ro y σ T D Q):VWx P G rd ro (.cond c x y) σ T D Q:=by
 intro r g w a rw0 hG hσ hd hD hrd
 have h1:=dC hG hσ c
 rw [hc] at h1
 exact wpIn_cond_split h1.val_inv (λh=>ht h r g w a rw0 hG hσ hd hD hrd) (λh=>hf h r g w a rw0 hG hσ hd hD hrd)
section
variable {b:Frame}{a:Act}{k:List Item}{cs:List Frame}{w:World}
theorem fF {c:Code}:step P (lone (b.atR a (.code (.scope c)::k)) cs w)=.next (lone (b.atR a (.code c:: .inScope c::k)) cs w):=
 step_lone_go (by simp [stepG,stepG.exec,atR])
theorem vt {c:Code}:step P (lone (b.atR a (.inScope c::k)) cs w)=.next (lone (b.atR a k) cs w):=
 step_lone_go (by simp [stepG,stepG.exec,atR])
end
def Hi (Q:Exit→Act→World→Prop):Exit→Act→World→Prop
 | .goto _,_,_=>False
 |e,a,w=>Q e a w
theorem oh {F:Fence}{n:Nat}{Q:Exit→Act→World→Prop}{a:Act}{w:World}{c:Code}(h:c.wpIn F n P (Hi Q) a w):(Code.scope c).wpIn F n P Q a w:=by
 intro b k cs hro hb hr
 have h0:(lone (b.atR a (.code (.scope c)::k)) cs w).fenced P F:=fenced_calm hb hr rfl
 obtain ⟨e,a₁,w₁,hq,harr⟩:=h b (.inScope c::k) cs hro hb hr
 cases e with
 |normal=>exact ⟨.normal,a₁,w₁,hq,.head h0 fF (StepsIn.trans harr (.one (fenced_calm hb hr rfl) vt))⟩
 |exit id=>
  have hx:exitTo id (.inScope c::k)=exitTo id k:=by simp [exitTo]
  exact ⟨.exit id,a₁,w₁,hq,λk' hk=>.head h0 fF (harr.1 k' (by rw [hx];exact hk)),
   λhr' hk=>let ⟨k₁,h1,h2⟩:=harr.2 hr' (by rw [hx];exact hk);⟨k₁,h1,.head h0 fF h2⟩⟩
 |goto l=>exact hq.elim
 |ret=>exact ⟨_,a₁,w₁,hq,.of_steps (.one h0 fF) harr⟩
 |panic ch=>exact ⟨_,a₁,w₁,hq,.of_steps (.one h0 fF) harr⟩
 |outgrown=>exact ⟨_,a₁,w₁,hq,.of_steps (.one h0 fF) harr⟩
theorem VWx.scope {rd:Option Nat}{ro:Nat}{c:Code}{σ:List TV}{T:VT}{D:List Nat}{Q:KX}(h:VWx P G rd ro c σ T D (BJ Q)):VWx P G rd ro (.scope c) σ T D Q:=by
 intro r g w a rw0 hG hσ hd hD hrd
 refine oh (wpIn_mono (h r g w a rw0 hG hσ hd hD hrd) ?_)
 rintro e a' w' ⟨g',σ',T',D',hq,h⟩
 cases e<;>first
  |exact ⟨g',σ',T',D',hq,h⟩
  |exact hq.elim
theorem VWx.loop {rd:Option Nat}{ro:Nat}{c:Code}{σ:List TV}{T:VT}{D:List Nat}{Q:KX}(I:Nat→List TV→VT→List Nat→Prop)(n:Nat)(h0:I n σ T D)
  (round:∀n σ T D,I n σ T D→VWx P G rd ro c σ T D (nt (λσ' T' D'=>∃n',n' <n∧I n' σ' T' D') Q)):VWx P G rd ro (.loop c) σ T D Q:=by
 intro r g w a rw0 hG hσ hd hD hrd
 refine wpIn_loop_ghost (λn a' w'=>∃g' σ' T' D',I n σ' T' D'∧Evo g w g' w'∧RW g' T' w'∧VRs g' w' σ' a'.tmps.toList∧a'.defers=D'.map (mk g')∧(∀id∈D',(g'.obj id).isSome=true)∧Fix ro g T w T' w') n ⟨g,σ,T,D,h0,Evo.refl _ _,rw0,hσ,hd,hD,Fix.refl _ _ _ _⟩ ?_
 rintro m a' w' ⟨g',σ',T',D',hI,e1,r',hσ',hd',hD',hx⟩
 refine wpIn_mono (round m σ' T' D' hI r g' w' a' r' (hG.mono e1) hσ' hd' hD' (wl e1 hrd)) ?_
 rintro e a'' w'' ⟨g'',σ'',T'',D'',hq,e2,r2,s2,d2,dd2,x2⟩
 cases e<;>first
  |exact ⟨g'',σ'',T'',D'',hq,e1.trans e2,r2,s2,d2,dd2,hx.trans e1 x2⟩
  | (obtain ⟨n',hn,hI'⟩:=hq;exact ⟨n',hn,g'',σ'',T'',D'',hI',e1.trans e2,r2,s2,d2,dd2,hx.trans e1 x2⟩)
theorem iP {g:Gh}{T:VT}{w:World}(r:RW g T w){id b:Nat}{st:LoopState}{pend:Option Code}{σ:List TV}{ps:Array Tmp}{asg body:Code}(ho:T.objs[id]?=some (.loop st pend σ ps asg body))(hb:g.obj id=some b):
  ∃rec:Loop,w.heap[b]?=some (.loop rec)∧rec.state=st∧rec.pending=pend∧rec.params=ps∧rec.assign=asg∧rec.body=body∧VRs g w σ rec.tmps.toList∧
   ∀st' pend',RW g (T.setLoop id st' pend' σ ps asg body) (w.putObj b (.loop {rec with state:=st',pending:=pend' }))∧Evo g w g (w.putObj b (.loop {rec with state:=st',pending:=pend' }))∧
    ∀ro,ro≤id→Fix ro g T w (T.setLoop id st' pend' σ ps asg body) (w.putObj b (.loop {rec with state:=st',pending:=pend' })):=by
 obtain ⟨b',h1,h2,h3,h4⟩:=r.obj id _ ho rfl
 rw [hb] at h1;injection h1 with h1;subst h1
 obtain ⟨us,fn,db,h5,h6⟩:=h2
 have hlt:=(Array.getElem?_eq_some_iff.1 h5).1
 refine ⟨_,h5,rfl,rfl,rfl,rfl,rfl,h6,λst' pend'=> ?_⟩
 have hnew:=World.putObj_heap_same (w:=w) (o:=.loop {state:=st',pending:=pend',fn:=fn,tmps:=us.toArray,params:=ps,assign:=asg,body:=body,defers:=db}) hlt
 have hoth:∀c,c≠b→(w.putObj b (.loop {state:=st',pending:=pend',fn:=fn,tmps:=us.toArray,params:=ps,assign:=asg,body:=body,defers:=db})).heap[c]?=w.heap[c]?:=λc hc=>World.putObj_heap_other hc
 have key:∀(hE:∀w',w'=w.putObj b (.loop {state:=st',pending:=pend',fn:=fn,tmps:=us.toArray,params:=ps,assign:=asg,body:=body,defers:=db})→Evo g w g w'),RW g (T.setLoop id st' pend' σ ps asg body) (w.putObj b (.loop {state:=st',pending:=pend',fn:=fn,tmps:=us.toArray,params:=ps,assign:=asg,body:=body,defers:=db}))∧Evo g w g (w.putObj b (.loop {state:=st',pending:=pend',fn:=fn,tmps:=us.toArray,params:=ps,assign:=asg,body:=body,defers:=db})):=λhE=>
  r.setObj (o':=.loop st' pend' σ ps asg body) ho rfl hb ⟨rfl,rfl,rfl⟩ putObj_size hoth (by unfold bg;rw [hnew,h5]) λ_=>⟨us,fn,db,hnew,h6.mono (hE _ rfl)⟩
 have hE:=(r.setObj (o':=.gone) ho rfl hb (w':=w.putObj b (.loop {state:=st',pending:=pend',fn:=fn,tmps:=us.toArray,params:=ps,assign:=asg,body:=body,defers:=db})) ⟨rfl,rfl,rfl⟩ putObj_size hoth (by unfold bg;rw [hnew,h5]) λh=>by cases h).2
 obtain ⟨k1,k2⟩:=key λw' hw=>by rw [hw];exact hE
 exact ⟨k1,k2,λro hr=>cq r ho rfl hb hr hoth⟩
theorem oS {fn:Func}{ro:Nat}{σ:List TV}{K:TV→VT→Prop}{tmps:Array Value}{g0:Gh}{T0:VT}{w0:World}:∀(D:List Nat) (T T':VT) (g:Gh) (w:World) (x:TV),mT ro D T=some T'→kO P T' σ fn.results=some x→K x T'→
  RW g T w→VRs g w σ tmps.toList→Evo g0 w0 g w→Fix ro g0 T0 w0 T w→
  LeavesInM (bR none) 0 P fn tmps (λe w'=>∃v x g' T',e=.returned v∧K x T'∧Evo g0 w0 g' w'∧RW g' T' w'∧VR g' w' x v∧Fix ro g0 T0 w0 T' w') (D.map (mk g)) .returning w
 |[],T,T',g,w,x,h,hr,hk,r,hσ,e,hx=>by
  simp only [mT] at h
  injection h with h;subst h
  obtain ⟨v,h1,h2⟩:=yk (a:={tmps:=tmps,defers:= []}) r hσ hr
  exact ⟨v,h2,v,x,g,T,rfl,hk,e,r,h1,hx⟩
 |id::D,T,T',g,w,x,h,hr,hk,r,hσ,e,hx=>by
  simp only [mT] at h
  split at h
  ·rename_i ho
   cases hb:ble ro id with
   |false=>rw [hb] at h;cases h
   |true=>
    rw [hb] at h
    simp only [cond_true] at h
    obtain ⟨b,h1,h2,h3,h4⟩:=r.obj id _ ho rfl
    have hlt:=(Array.getElem?_eq_some_iff.1 h2).1
    have hnew:=World.putObj_heap_same (w:=w) (o:=.deferred none) hlt
    have hoth:∀c,c≠b→(w.putObj b (.deferred none)).heap[c]?=w.heap[c]?:=λc hc=>World.putObj_heap_other hc
    obtain ⟨k1,k2⟩:=r.setObj (o':=.gone) ho rfl h1 (w':=w.putObj b (.deferred none)) ⟨rfl,rfl,rfl⟩ putObj_size hoth (by unfold bg;rw [hnew,show w.heap[b]?=_ from h2]) λh=>by cases h
    have k3:Fix ro g T w (T.kill id) (w.putObj b (.deferred none)):=cq r ho rfl h1 (le_of_ble_eq_true hb) hoth
    refine ⟨λh=>(by cases h),.inl ⟨b,w.putObj b (.deferred none),by simp [mk,h1],run_takeDeferred h2,?_⟩⟩
    exact oS D (T.kill id) T' g _ x h hr hk k1 (hσ.mono k2) (e.trans k2) (hx.trans e k3)
  ·cases h
theorem uK {fn:Func}{ro:Nat}{K:TV→VT→Prop}{σ:List TV}{T:VT}{D:List Nat}(h:sj P fn ro σ T D K):∃T' x,mT ro D T=some T'∧kO P T' σ fn.results=some x∧K x T':=by
 unfold sj at h
 split at h
 ·rename_i T' hT
  split at h
  ·rename_i x hx;exact ⟨T',x,hT,hx,h⟩
  ·exact h.elim
 ·exact h.elim
theorem VCx.enter {ro:Nat}{f:FuncId}{fn:Func}{c:Code}{xs:List TV}{T:VT}{K:TV→VT→Prop}(hf:P.funcs[f]?=some fn)(hb:fn.body=some c)
  (h:VWx P G none ro c (sk fn xs) T [] (vD P fn ro K)):VCx P G ro f xs T K:=by
 intro g w us rw0 hG hx
 refine wk (r:=none) (n:=0) (callsIn_of_wp_marks hf hb trivial (wpIn_mono (h none g w _ rw0 hG ?_ rfl (λ_ h=>nomatch h) rfl) ?_))
 ·have e1:(us.toArray++replicate (fn.ntmps-us.toArray.size) undef).toList=us++(List.replicate (fn.ntmps-xs.length) undef):=by simp [hx.1]
  rw [e1]
  refine hx.app ?_
  have:=VRs.vals g w (List.replicate (fn.ntmps-xs.length) undef)
  simpa using this
 ·rintro e a' w' ⟨g',σ',T',D',hq,e1,r',hσ',hd',hD',hx'⟩
  cases e with
  |normal=>
   obtain ⟨T'',x,h1,h2,h3⟩:=uK (P:=P) hq
   simp only [bodyPostM,hd']
   exact oS D' T' T'' g' w' x h1 h2 h3 r' hσ' e1 hx'
  |ret=>
   obtain ⟨T'',x,h1,h2,h3⟩:=uK (P:=P) hq
   simp only [bodyPostM,hd']
   exact oS D' T' T'' g' w' x h1 h2 h3 r' hσ' e1 hx'
  |exit id=>exact hq.elim
  |goto l=>exact hq.elim
  |panic ch=>exact hq.elim
  |outgrown=>exact hq.elim
def AC (P:Program)(G:aC)(run:tD):Prop:=∀rd ro c σ T D K,run rd ro c σ T D K→VWx P G rd ro c σ T D K
theorem sy {g:Gh}{w:World}:∀(ps:List Tmp) (xs σ:List TV) (us tmps:List Value),VRs g w xs us→VRs g w σ tmps→VRs g w (kD ps xs σ) ((ps.zip us).foldl (λt p=>t.set p.1 p.2) tmps)
 |[],xs,σ,us,tmps,hx,hσ=>by simpa [kD] using hσ
 |p::ps,[],σ,us,tmps,hx,hσ=>by
  have:us= []:=List.eq_nil_of_length_eq_zero hx.1
  subst this
  simpa [kD] using hσ
 |p::ps,x::xs,σ,[],tmps,hx,hσ=>by have:=hx.1;simp at this
 |p::ps,x::xs,σ,u::us,tmps,hx,hσ=>by
  simp only [kD,List.zip_cons_cons,List.foldl_cons]
  exact sy ps xs _ us _ ⟨by simpa using hx.1,λj y v hy hv=>hx.2 (j+1) y v (by simpa using hy) (by simpa using hv)⟩ (hσ.set p (hx.2 0 x u rfl rfl))
theorem yx (ps:Array Tmp)(us:List Value)(tmps:Array Value):((ps.zip us.toArray).foldl (λtmps (t,a)=>tmps.setIfInBounds t a) tmps).toList=(ps.toList.zip us).foldl (λt p=>t.set p.1 p.2) tmps.toList:=by
 rw [←Array.foldl_toList]
 simp only [Array.toList_zip]
 generalize ps.toList.zip us=l
 induction l generalizing tmps with
 |nil=>rfl
 |cons p l ih=>simp only [List.foldl_cons];rw [ih];simp
theorem wN {ro id:Nat}{st:LoopState}{pend:Option Code}{T:VT}{K:VT→Prop}(h:ir ro id st pend T K):∃st0 pend0 σ ps asg body,T.objs[id]?=some (.loop st0 pend0 σ ps asg body)∧ro≤id∧K (T.setLoop id st pend σ ps asg body):=by
 unfold ir at h
 split at h
 ·rename_i st0 pend0 σ ps asg body ho
  cases hb:ble ro id with
  |false=>rw [hb] at h;exact h.elim
  |true=>rw [hb] at h;exact ⟨_,_,_,_,_,_,ho,le_of_ble_eq_true hb,h⟩
 ·exact h.elim
theorem BY {run:tD}(hrun:AC P G run):eP P G (oM run):=by
 intro ro id xs T K h g w us rw0 hG hxs
 unfold oM at h
 split at h
 ·rename_i σ ps asg body ho
  cases hb:(ble ro id&&beq ps.size xs.length) with
  |false=>rw [hb] at h;exact h.elim
  |true=>
   rw [hb] at h
   simp only [and_eq_true] at hb
   obtain ⟨hro,hsz⟩:=hb
   have hro:=le_of_ble_eq_true hro
   have hsz:=eq_of_beq_eq_true hsz
   simp only [cond_true] at h
   obtain ⟨b,hgb,_⟩:=rw0.obj id _ ho rfl
   obtain ⟨rec,h1,h2,h3,h4,h5,h6,h7,_⟩:=iP rw0 ho hgb
   refine ⟨b,_,_,_,_,hgb,run_yield h1 (by rw [h4];simpa [hxs.1] using hsz.symm),?_⟩
   rw [h4,h5,h6]
   refine roundIn_of_wpIn (F:=wide) trivial ?_
   refine wpIn_mono (hrun _ _ _ _ _ _ _ h (some b) g w {tmps:=_,defers:= []} rw0 hG ?_ rfl (λ_ h=>nomatch h) ⟨rfl,hgb⟩) ?_
   ·simp only
    rw [yx]
    exact sy _ _ _ _ _ hxs h7
   ·rintro e a' w' ⟨g',σ',T',D',hq,e1,r',hσ',hd',hD',hx'⟩
    cases e with
    |normal=>
     simp only at hq
     split at hq
     ·rename_i σ2 ps2 asg2 body2 ho2
      have hgb':=e1.obj id b hgb
      obtain ⟨rec2,k1,k2,k3,k4,k5,k6,k7,k8⟩:=iP r' ho2 hgb'
      obtain ⟨m1,m2,m3⟩:=k8 .busy none
      have hrec:({rec2 with state:=.busy}:Loop)={rec2 with state:=.busy,pending:=none}:=by
       rw [←k3]
      refine ⟨_,run_beginRound k1 k2,?_⟩
      rw [hrec]
      refine wpIn_mono (hrun _ _ _ _ _ _ _ hq (some b) g' _ a' m1 ((hG.mono e1).mono m2) (hσ'.mono m2) hd' hD' ⟨rfl,hgb'⟩) ?_
      have fx:=hx'.trans e1 (m3 ro hro)
      rintro e a2 w2 ⟨g2,σ2',T2,D2,hq2,e2,r2,hσ2,hd2,hD2,hx2⟩
      have hgb2:=e2.obj id b hgb'
      have ee:=(e1.trans m2).trans e2
      have ff:=fx.trans (e1.trans m2) hx2
      have fin:∀(st:LoopState) (pend:Option Code) (y:TV) (v:Value) (vd:VR g2 w2 y v),ir ro id st pend T2 (λT=>K y T)→st=(if pend.isNone then .ready else .done)→v=.bool pend.isNone→
        ∃v' w',(Instr.endRound b pend).run P w2=.ok v' w'∧∃v x g' T',(Ending.returned v'=.returned v)∧K x T'∧Evo g w g' w'∧RW g' T' w'∧VR g' w' x v∧Fix ro g T w T' w':=by
       intro st pend y v vd hv hst hvv
       obtain ⟨st0,pend0,σ3,ps3,asg3,body3,n1,n2,n3⟩:=wN hv
       obtain ⟨rec3,p1,p2,p3,p4,p5,p6,p7,p8⟩:=iP r2 n1 hgb2
       obtain ⟨q1,q2,q3⟩:=p8 st pend
       refine ⟨_,_,run_endRound pend p1,v,y,g2,_,by rw [hvv],n3,?_⟩
       rw [←hst]
       exact ⟨ee.trans q2,q1,vd.mono q2,ff.trans ee (q3 ro hro)⟩
      cases e with
      |normal=>exact fin .ready none _ _ (.val (.bool true)) hq2 rfl rfl
      |ret=>exact fin .done (some .ret) _ _ (.val (.bool false)) hq2 rfl rfl
      |exit i=>exact fin .done (some (.exit i)) _ _ (.val (.bool false)) hq2 rfl rfl
      |goto l=>exact hq2.elim
      |panic ch=>exact hq2.elim
      |outgrown=>exact hq2.elim
     ·exact hq.elim
    |ret=>exact hq.elim
    |exit i=>exact hq.elim
    |goto l=>exact hq.elim
    |panic ch=>exact hq.elim
    |outgrown=>exact hq.elim
 ·exact h.elim
theorem wO {ro id:Nat}{σ:List TV}{D:List Nat}{K:KX}{T:VT}(h:fZ ro id σ D K T):∃st pend σ' ps asg body e,T.objs[id]?=some (.loop st pend σ' ps asg body)∧ro≤id∧K e σ (T.setLoop id .exhausted pend σ' ps asg body) D∧st≠ .busy∧
  ((pend=none∧e=.normal)∨(pend=some .ret∧e=.ret)∨∃x,pend=some (.exit x)∧e=.exit x):=by
 unfold fZ at h
 split at h
 ·rename_i ho
  cases hb:ble ro id with
  |false=>rw [hb] at h;exact h.elim
  |true=>rw [hb] at h;exact ⟨_,_,_,_,_,_,_,ho,le_of_ble_eq_true hb,h,(λh=>by cases h),.inl ⟨rfl,rfl⟩⟩
 ·rename_i ho
  cases hb:ble ro id with
  |false=>rw [hb] at h;exact h.elim
  |true=>rw [hb] at h;exact ⟨_,_,_,_,_,_,_,ho,le_of_ble_eq_true hb,h,(λh=>by cases h),.inr (.inl ⟨rfl,rfl⟩)⟩
 ·rename_i ho
  cases hb:ble ro id with
  |false=>rw [hb] at h;exact h.elim
  |true=>rw [hb] at h;exact ⟨_,_,_,_,_,_,_,ho,le_of_ble_eq_true hb,h,(λh=>by cases h),.inr (.inr ⟨_,rfl,rfl⟩)⟩
 ·exact h.elim
theorem oT {r:Option Nat}{ro id b:Nat}{σ:List TV}{D:List Nat}{K:KX}{T':VT}(h:fZ ro id σ D K T'){g0:Gh}{T0:VT}{w0:World}{g':Gh}{w':World}{a':Act}(r':RW g' T' w')(hb:g'.obj id=some b)(e1:Evo g0 w0 g' w')(hx:Fix ro g0 T0 w0 T' w')
  (hσ:VRs g' w' σ a'.tmps.toList) (hd:a'.defers=D.map (mk g')) (hD:∀id∈D,(g'.obj id).isSome=true) (v:Value):
  rangePost (bR r) 0 P b (λe a' w'=>∃g' σ' T' D',K e σ' T' D'∧Evo g0 w0 g' w'∧RW g' T' w'∧VRs g' w' σ' a'.tmps.toList∧a'.defers=D'.map (mk g')∧(∀id∈D',(g'.obj id).isSome=true)∧Fix ro g0 T0 w0 T' w') a' (.returned v) w':=by
 obtain ⟨st,pend,σ',ps,asg,body,e,n1,n2,n3,n4,n5⟩:=wO h
 obtain ⟨rec3,p1,p2,p3,p4,p5,p6,p7,p8⟩:=iP r' n1 hb
 obtain ⟨q1,q2,q3⟩:=p8 .exhausted pend
 have hrec:({rec3 with state:=.exhausted}:Loop)={rec3 with state:=.exhausted,pending:=pend}:=by rw [←p3]
 refine ⟨_,_,run_endLoop p1 (by rw [p2];exact n4),?_⟩
 rw [hrec,p3]
 have fin:∃g'' σ'' T'' D'',K e σ'' T'' D'' ∧Evo g0 w0 g'' (w'.putObj b (.loop {rec3 with state:=.exhausted,pending:=pend}))∧RW g'' T'' (w'.putObj b (.loop {rec3 with state:=.exhausted,pending:=pend}))∧VRs g'' (w'.putObj b (.loop {rec3 with state:=.exhausted,pending:=pend})) σ'' a'.tmps.toList∧a'.defers=D''.map (mk g'')∧(∀id∈D'',(g''.obj id).isSome=true)∧Fix ro g0 T0 w0 T'' (w'.putObj b (.loop {rec3 with state:=.exhausted,pending:=pend})):=
  ⟨g',σ,_,D,n3,e1.trans q2,q1,hσ.mono q2,hd,hD,hx.trans e1 (q3 ro n2)⟩
 rcases n5 with ⟨rfl,rfl⟩ | ⟨rfl,rfl⟩ | ⟨x,rfl,rfl⟩
 ·exact fin
 ·exact wpIn_ret fin
 ·exact wpIn_exit fin
theorem wP {α:Type}(l m:List α):(l++m).take l.length=l:=by simp
theorem yT (us vs:List Value)(y:Value):(us.toArray++ #[y])++vs.toArray=(us++ [y]++vs).toArray:=by simp
theorem qI {a:Act}{f:Operand}{l:Nat}{fi:FuncId}{us vs:List Value}(h:a.eval f=.func (.func fi) us.toArray vs.toArray)(w:World):
  (resolve a.eval (rangeCall f l) 0).run P w=.ok {target:=.fn (.func fi) vs.toArray,args:=us.toArray++ #[.func (.yield l) #[] #[]]} w:=by
 have hc:a.eval (.const (.func (.yield l) #[] #[]))=.func (.yield l) #[] #[]:=rfl
 simp [resolve,h,hc,Deferred.ofValue]
theorem sB {fi:FuncId}{fn:Func}{args vs:Array Value}(hfn:P.funcs[fi]?=some fn)(hb:fn.body.isSome=true)(hnm:(fn.name== "runtime.NumGoroutine")=false)(w:World):
  (invoke (.fn (.func fi) vs) args).run P w=.ok (.enter fi (args++vs)) w:=by
 have hb':fn.body≠none:=by intro h;rw [h] at hb;cases hb
 have hnm':fn.name≠ "runtime.NumGoroutine" :=by simpa using hnm
 simp [invoke,callFunc,hfn,hnm',hb']
theorem VWx.range0 {ro:Nat}{f:Operand}{ps:Array Tmp}{asg body:Code}{σ:List TV}{T:VT}{D:List Nat}{K:KX}{fi:FuncId}{fn:Func}{first ca:List TV}(hf:aF G σ f=.fn (.func fi) first ca)
  (hfn:P.funcs[fi]?=some fn) (hb:fn.body.isSome=true) (hnm:(fn.name== "runtime.NumGoroutine")=false)
  (hc:VCx P G ro fi (first++ [.yld (T.objs.length+1)]++ca) {T with objs:=T.objs++ [.defd]++ [.loop .ready none σ ps asg body]} λ_ T'=>fZ ro (T.objs.length+1) σ (T.objs.length::D) K T'):
  VWx P G none ro (.rangeFunc f ps asg body) σ T D K:=by
 intro r g w a rw0 hG hσ hd hD hrd
 have hrd:r=none:=hrd
 subst hrd
 have hv:=dC hG hσ f
 rw [hf] at hv
 obtain ⟨us,vs,h2,h3,h4⟩:=hv.fn_inv
 refine wpIn_rangeFunc λfd _=> ?_
 obtain ⟨g1,r1,e1,ho1,_⟩:=rw0.new (.deferred (some [])) (o:=.defd) rfl (alloc_heap_new _ _)
 have hE:=Evo.of_gr r1 ((Gr.refl (w.alloc (.deferred (some [])))).alloc (.loop {state:=.ready,pending:=none,fn:=fd,tmps:=a.tmps,params:=ps,assign:=asg,body:=body,defers:=w.heap.size}))
 obtain ⟨g2,r2,e2,ho2,_⟩:=r1.new (.loop {state:=.ready,pending:=none,fn:=fd,tmps:=a.tmps,params:=ps,assign:=asg,body:=body,defers:=w.heap.size}) (o:=.loop .ready none σ ps asg body) rfl
  ⟨a.tmps.toList,fd,w.heap.size,alloc_heap_new _ _,hσ.mono (e1.trans hE)⟩
 have ee:=e1.trans e2
 have hl:(w.alloc (.deferred (some []))).heap.size=w.heap.size+1:=World.size_alloc ..
 have hl2:({T with objs:=T.objs++ [.defd]}:VT).objs.length=T.objs.length+1:=by simp
 rw [hl,hl2] at ho2
 have ho1':=e2.obj _ _ ho1
 have f1:Fix ro g T w {T with objs:=T.objs++ [.defd]++ [.loop .ready none σ ps asg body]} ((w.alloc (.deferred (some []))).alloc (.loop {state:=.ready,pending:=none,fn:=fd,tmps:=a.tmps,params:=ps,assign:=asg,body:=body,defers:=w.heap.size})):=
  Fix.of_same (Same.of_gr rw0 (((Gr.refl w).alloc _).alloc _)) (by simp only [List.append_assoc];exact wP _ _)
 refine ⟨w.heap.size+1,[{target:=.collected w.heap.size,args:= #[]}],_,_,_,fi,_,_,run_enterLoop_outer fd a.tmps ps asg body,qI h2 _,λ_ _=>trivial,sB hfn hb hnm _,λh=>(by cases h),?_⟩
 have hargs:VRs g2 _ (first++ [.yld (T.objs.length+1)]++ca) (us++ [.func (.yield (w.heap.size+1)) #[] #[]]++vs):=((h3.mono ee).app (VRs.cons (.yld ho2) (VRs.nil _ _))).app (h4.mono ee)
 have hcall:=hc g2 _ _ r2 (hG.mono ee) hargs
 have ha:(us.toArray++ #[Value.func (.yield (w.heap.size+1)) #[] #[]])++vs.toArray=(us++ [Value.func (.yield (w.heap.size+1)) #[] #[]]++vs).toArray:=yT us vs _
 rw [ha]
 refine mj (Calls.mono hcall ?_)
 rintro e w' ⟨v,x,g',T',rfl,hq,e3,r',hv,hx⟩
 have eE:=ee.trans e3
 refine oT (a':={tmps:=a.tmps,defers:= [{target:=.collected w.heap.size,args:= #[]}]++a.defers}) hq r' (e3.obj _ _ ho2) eE (f1.trans ee hx) (hσ.mono eE) ?_ ?_ v
 ·show [_]++a.defers=_
  rw [hd,map_cons,jz eE hD]
  simp [mk,e3.obj _ _ ho1']
 ·intro id hid
  rcases mem_cons.1 hid with rfl | hid
  ·rw [e3.obj _ _ ho1'];rfl
  ·exact dX eE hD id hid
theorem VWx.range1 {i0 ro:Nat}{f:Operand}{ps:Array Tmp}{asg body:Code}{σ:List TV}{T:VT}{D:List Nat}{K:KX}{fi:FuncId}{fn:Func}{first ca:List TV}{st0:LoopState}{pend0:Option Code}{σ0:List TV}{ps0:Array Tmp}{asg0 body0:Code}
  (hf:aF G σ f=.fn (.func fi) first ca) (hlp:T.objs[i0]?=some (.loop st0 pend0 σ0 ps0 asg0 body0))
  (hfn:P.funcs[fi]?=some fn) (hb:fn.body.isSome=true) (hnm:(fn.name== "runtime.NumGoroutine")=false)
  (hc:VCx P G ro fi (first++ [.yld T.objs.length]++ca) {T with objs:=T.objs++ [.loop .ready none σ ps asg body]} λ_ T'=>fZ ro T.objs.length σ D K T'):
  VWx P G (some i0) ro (.rangeFunc f ps asg body) σ T D K:=by
 intro r g w a rw0 hG hσ hd hD hrd
 obtain ⟨hr1,hr2⟩:=hrd
 obtain ⟨b0,rfl⟩:=Option.isSome_iff_exists.1 hr1
 obtain ⟨rec0,k1,_⟩:=iP rw0 hlp hr2
 have hv:=dC hG hσ f
 rw [hf] at hv
 obtain ⟨us,vs,h2,h3,h4⟩:=hv.fn_inv
 refine wpIn_rangeFunc λfd _=> ?_
 have hE:=Evo.of_gr rw0 ((Gr.refl w).alloc (.loop {state:=.ready,pending:=none,fn:=fd,tmps:=a.tmps,params:=ps,assign:=asg,body:=body,defers:=rec0.defers}))
 obtain ⟨g2,r2,ee,ho2,_⟩:=rw0.new (.loop {state:=.ready,pending:=none,fn:=fd,tmps:=a.tmps,params:=ps,assign:=asg,body:=body,defers:=rec0.defers}) (o:=.loop .ready none σ ps asg body) rfl
  ⟨a.tmps.toList,fd,rec0.defers,alloc_heap_new _ _,hσ.mono hE⟩
 have f1:Fix ro g T w {T with objs:=T.objs++ [.loop .ready none σ ps asg body]} (w.alloc (.loop {state:=.ready,pending:=none,fn:=fd,tmps:=a.tmps,params:=ps,assign:=asg,body:=body,defers:=rec0.defers})):=
  Fix.of_same (Same.of_gr rw0 ((Gr.refl w).alloc _)) (wP _ _)
 refine ⟨w.heap.size,[],_,_,_,fi,_,_,run_enterLoop_inner k1 fd a.tmps ps asg body,qI h2 _,λ_ _=>trivial,sB hfn hb hnm _,λh=>(by cases h),?_⟩
 have hargs:VRs g2 _ (first++ [.yld T.objs.length]++ca) (us++ [.func (.yield w.heap.size) #[] #[]]++vs):=((h3.mono ee).app (VRs.cons (.yld ho2) (VRs.nil _ _))).app (h4.mono ee)
 have hcall:=hc g2 _ _ r2 (hG.mono ee) hargs
 have ha:(us.toArray++ #[Value.func (.yield w.heap.size) #[] #[]])++vs.toArray=(us++ [Value.func (.yield w.heap.size) #[] #[]]++vs).toArray:=yT us vs _
 rw [ha]
 refine mj (Calls.mono hcall ?_)
 rintro e w' ⟨v,x,g',T',rfl,hq,e3,r',hv,hx⟩
 have eE:=ee.trans e3
 refine oT (a':={tmps:=a.tmps,defers:= []++a.defers}) hq r' (e3.obj _ _ ho2) eE (f1.trans ee hx) (hσ.mono eE) ?_ (dX eE hD) v
 show []++a.defers=_
 rw [hd,jz eE hD];rfl
def aT (P:Program)(G:aC)(C:FuncId→Option aZ):Prop:=∀f W,C f=some W→∀ro xs T K,W ro xs T K→VCx P G ro f xs T K
def ge (P:Program):Bool:=P.funcs.toList.all λfn=> !fn.body.isSome || !(fn.name== "runtime.NumGoroutine")
theorem BZ {C:FuncId→Option aZ}(hB:ge P=true)(hC:aT P G C){run:tD}(hrun:AC P G run):dM P G (i7 P C run):=by
 intro ro f xs T K h
 unfold i7 at h
 split at h
 ·rename_i fn hf
  split at h
  ·rename_i c hc
   have hnm:(fn.name== "runtime.NumGoroutine")=false:=by
    have hmem:fn∈P.funcs.toList:=by
     obtain ⟨hlt,he⟩:=Array.getElem?_eq_some_iff.1 hf
     rw [←he];exact mem_toList_iff.2 (Array.getElem_mem hlt)
    have:=all_eq_true.1 hB fn hmem
    simpa [hc] using this
   refine ⟨fn,hf,by rw [hc];rfl,hnm,?_⟩
   split at h
   ·rename_i W hW
    exact hC f W hW ro xs T K h
   ·exact VCx.enter hf hc (hrun _ _ _ _ _ _ _ h)
  ·exact h.elim
 ·exact h.elim
def dS (P:Program)(G:aC)(L:Nat→Option (bH × Code)):Prop:=∀id W c,L id=some (W,c)→∀rd ro σ T D K,W rd ro σ T D K→VWx P G rd ro c σ T D K
theorem ak:dS P G λ_=>none:=λ_ _ _ h=>by cases h
theorem vE {C:FuncId→Option aZ}(hm:P.follows .mixedOrders=true)(hB:ge P=true)(hC:aT P G C):
  ∀n m,m≤n→∀F L,dS P G L→AC P G (vx P G C F m L)
 |_,0,_,_,_,_,_,_,_,_,_,_,_,h=>by simp only [vx] at h;exact h.elim
 | 0,m+1,hle,_,_,_,_,_,_,_,_,_,_,_=>by omega
 |n+1,m+1,hle,F,L,hL,rd,ro,c,σ,T,D,K,h=>by
  have ih:=λm hm0=>vE hm hB hC n m hm0 F L hL
  have ih0:=λm hm0=>vE hm hB hC n m hm0 bv (λ_=>none) ak
  have hcal:dM P G (i7 P C (vx P G C bv m λ_=>none)):=BZ hB hC (ih0 m (by omega))
  have hrnd:eP P G (oM (vx P G C bv m λ_=>none)):=BY (ih0 m (by omega))
  unfold vx at h
  cases c with
  |skip=>exact VWx.here (e:=.normal) h λF a w R hr=>wpIn_skip hr
  |exit id=>exact VWx.here (e:=.exit id) h λF a w R hr=>wpIn_exit hr
  |ret=>exact VWx.here (e:=.ret) h λF a w R hr=>wpIn_ret hr
  |seq a b=>
   refine VWx.seq ((ih m (by omega) _ _ _ _ _ _ _ h).mono λe σ T D hq=> ?_)
   cases e<;>first
    |exact ih m (by omega) _ _ _ _ _ _ _ hq
    |exact hq
  |cond c x y=>
   simp only at h
   split at h
   ·rename_i b hb
    refine VWx.cond hb (λhbt=> ?_) (λhbf=> ?_)
    ·subst hbt;exact ih m (by omega) _ _ _ _ _ _ _ h
    ·subst hbf;exact ih m (by omega) _ _ _ _ _ _ _ h
   ·exact h.elim
  |block id c=>
   simp only at h
   split at h
   ·rename_i W c' hW
    obtain ⟨rfl,h⟩:=h
    exact hL _ _ _ hW rd ro σ T D K h
   ·exact VWx.block (ih m (by omega) _ _ _ _ _ _ _ h)
  |scope c=>exact VWx.scope (ih m (by omega) _ _ _ _ _ _ _ h)
  |loop c=>
   refine VWx.loop (λk σ T D=>k≤m+1∧vx P G C F k L rd ro (.loop c) σ T D K) (m+1) ⟨le_refl _,by unfold vx;exact h⟩ ?_
   rintro k σ T D ⟨hk,h⟩
   cases k with
   |zero=>simp only [vx] at h;exact h.elim
   |succ j=>
    unfold vx at h
    refine (ih j (by omega) _ _ _ _ _ _ _ h).mono λe σ T D hq=> ?_
    cases e<;>first
     |exact ⟨j,by omega,by omega,hq⟩
     |exact hq
  |region id ops d=>
   simp only at h
   split at h
   ·rename_i W c' hW
    obtain ⟨rfl,h⟩:=h
    exact hL _ _ _ hW rd ro σ T D K h
   ·cases d with
    |false=>exact sn (Q:=K) hcal hrnd h
    |true=>exact DZ (Q:=K) hcal hrnd hm h
  |rangeFunc f ps a b=>
   simp only at h
   split at h
   ·rename_i fi first ca hf
    cases rd with
    |none=>
     obtain ⟨fn,h1,h2,h3,h4⟩:=hcal _ _ _ _ _ h
     exact VWx.range0 hf h1 h2 h3 h4
    |some i0=>
     simp only at h
     split at h
     ·rename_i hlp
      obtain ⟨fn,h1,h2,h3,h4⟩:=hcal _ _ _ _ _ h
      exact VWx.range1 hf hlp h1 h2 h3 h4
     ·exact h.elim
   ·exact h.elim
  |label l=>exact VWx.here (e:=.normal) h λF a w R hr=>wpIn_label hr
  |goto l=>exact h.elim
  |refuse why=>exact h.elim
theorem uL {C:FuncId→Option aZ}(hm:P.follows .mixedOrders=true)(hB:ge P=true)(hC:aT P G C){F:iJ}{n:Nat}{L:Nat→Option (bH × Code)}(hL:dS P G L){ro:Nat}{f:FuncId}{xs:List TV}{T:VT}{K:TV→VT→Prop}
  (h:aK P G C F n L ro f xs T K):VCx P G ro f xs T K:=by
 unfold aK at h
 split at h
 ·rename_i fn hf
  split at h
  ·rename_i c hc
   exact VCx.enter hf hc (vE hm hB hC n n (le_refl _) _ _ hL _ _ _ _ _ _ _ h)
  ·exact h.elim
 ·exact h.elim
theorem D0 {C:FuncId→Option aZ}(hm:P.follows .mixedOrders=true)(hB:ge P=true)(hC:aT P G C){n:Nat}{L:Nat→Option (bH × Code)}(hL:dS P G L){ro:Nat}{f:FuncId}{xs:List TV}{T:VT}{K:TV→VT→Prop}
 (h:E2 P G C n L ro f xs T K):VCx P G ro f xs T K:=uL hm hB hC hL (F:=bv) h
theorem aw:aT P G λ_=>none:=λ_ _ h=>by cases h
end
end
section
open Go.RowKit
section
variable {P:Program}{G:aC}
def dG (id:Nat):Code→Option Code
 | .block i c=>bif beq i id then some (.block i c) else dG id c
 | .seq a b=>match dG id a with
  |some c=>some c
  |none=>dG id b
 | .cond _ a b=>match dG id a with
  |some c=>some c
  |none=>dG id b
 | .loop c=>dG id c
 | .scope c=>dG id c
 | .rangeFunc _ _ a b=>match dG id a with
  |some c=>some c
  |none=>dG id b
 |_=>none
def B1 (P:Program)(f:FuncId):Code:=match P.funcs[f]? with
 |some fn=>fn.body.getD .skip
 |none=>.skip
def av (P:Program)(f:FuncId)(id:Nat):Code:=(dG id (B1 P f)).getD .skip
def sC:Code→Code
 | .block _ (.loop c)=>c
 |_=>.skip
def dh (P:Program)(f:FuncId)(id:Nat):Code:=sC (av P f id)
def jq (id:Nat):Code→Bool
 | .block i (.loop _)=>beq i id
 |_=>false
theorem tF {id:Nat}{c:Code}(h:jq id c=true):c=.block id (.loop (sC c)):=by
 unfold jq at h
 split at h
 ·rw [eq_of_beq_eq_true h];rfl
 ·cases h
def LEs:List TV→List (Option TV)→Prop
 |[],[]=>True
 |_::l,none::m=>LEs l m
 |x::l,some y::m=>x=y∧LEs l m
 |_,_=>False
def jr (m:List (Option TV)):List TV:=m.map λo=>o.getD .dead
theorem LEs.ok {g:Gh}{w:World}:∀{σ:List TV} {m:List (Option TV)} {us:List Value},LEs σ m→VRs g w σ us→VRs g w (jr m) us
 |[],[],us,_,h=>h
 |x::l,none::m,us,k,h=>by
  match us,h with
  |[],h=>have:=h.1;simp at this
  |u::us,h=>
   have h1:VRs g w l us:=⟨by have:=h.1;simpa using this,λj y v hy hv=>h.2 (j+1) y v (by simpa using hy) (by simpa using hv)⟩
   exact VRs.cons (.dead u) (LEs.ok (show LEs l m from k) h1)
 |x::l,some y::m,us,k,h=>by
  obtain ⟨rfl,k⟩:=k
  match us,h with
  |[],h=>have:=h.1;simp at this
  |u::us,h=>
   have h1:VRs g w l us:=⟨by have:=h.1;simpa using this,λj y v hy hv=>h.2 (j+1) y v (by simpa using hy) (by simpa using hv)⟩
   exact VRs.cons (h.2 0 x u rfl rfl) (LEs.ok k h1)
 |[],_::_,_,k,_=>k.elim
 |x::l,[],_,k,_=>k.elim
theorem VWx.sub {rd:Option Nat}{ro:Nat}{c:Code}{σ σ':List TV}{T:VT}{D:List Nat}{Q:KX}(h:VWx P G rd ro c σ' T D Q)(hs:∀g w us,VRs g w σ us→VRs g w σ' us):VWx P G rd ro c σ T D Q:=
 λr g w a rw0 hG hσ=>h r g w a rw0 hG (hs _ _ _ hσ)
def B2 {ι:Type}(μ:ι→Nat)(sl:ι→List (Option TV))(tt:ι→VT)(Inv:ι→Prop)(N M:Nat)(s:ι)(σ:List TV)(T:VT):Prop:=
 ∃s',Inv s'∧μ s' <μ s∧((T=tt s'∧LEs σ (sl s'))∨(T.keep N M=tt s'∧LEs (ay (ai N) (ai M) σ) (sl s')))
theorem VWx.loopS {ι:Type}{rd:Option Nat}{c:Code}{D:List Nat}{Q:KX}(μ:ι→Nat)(sl:ι→List (Option TV))(tt:ι→VT)(Inv:ι→Prop)(N M:Nat)(hN:∀s,Inv s→(tt s).objs.length≤N∧(tt s).tails.length≤M)(hD:∀id∈D,id<N)
    (hbody:∀s,Inv s→VWx P G rd 0 c (jr (sl s)) (tt s) D (nt (λσ T D'=>D'=D∧B2 μ sl tt Inv N M s σ T) Q)):
    ∀s,Inv s→VWx P G rd 0 (.loop c) (jr (sl s)) (tt s) D Q:=by
  intro s0 hs0
  refine VWx.loop (λn σ T D'=>∃s,Inv s∧μ s=n∧σ=jr (sl s)∧T=tt s∧D'=D) (μ s0) ⟨s0,hs0,rfl,rfl,rfl,rfl⟩ ?_
  rintro n σ T D' ⟨s,hs,rfl,rfl,rfl,rfl⟩
  intro r g w a rw0 hG hσ hd hDs hrd
  refine wpIn_mono (hbody s hs r g w a rw0 hG hσ hd hDs hrd) ?_
  rintro e a' w' ⟨g',σ',T',D'',hq,e',r',hσ',hd',hDs',hx⟩
  cases e<;>first
    |exact ⟨g',σ',T',D'',hq,e',r',hσ',hd',hDs',hx⟩
    | (obtain ⟨rfl,s',hs',hlt,⟨rfl,hle⟩ | ⟨hT,hle⟩⟩:=hq
       · exact ⟨g',_,_,_,⟨_,hlt,s',hs',rfl,rfl,rfl,rfl⟩,e',r',hle.ok hσ',hd',hDs',hx⟩
       · have hdk:∀id∈D'',(g'.keep N M).obj id=g'.obj id:=λid hid=>by simp [Gh.keep,hD id hid]
         refine ⟨g'.keep N M,_,tt s',D'',⟨_,hlt,s',hs',rfl,rfl,rfl,rfl⟩,e'.keep rw0 (hN s hs).1 (hN s hs).2,hT▸r'.keep N M,hle.ok (hσ'.ren (qZ g' N M)),?_,?_,?_⟩
         · rw [hd']
           apply map_congr_left
           intro id hid
           simp only [mk,hdk id hid]
         · intro id hid
           rw [hdk id hid];exact hDs' id hid
         · refine ⟨?_,λi hi=>absurd hi (not_lt_zero i),λi o b hi=>absurd hi (not_lt_zero i)⟩
           rw [←hT]
           simp only [VT.keep,length_map,length_take]
           have h1:=hx.len
           have h2:=(hN s hs).1
           omega)
theorem VWx.blockS {ι:Type}{rd:Option Nat}{f:FuncId}{id:Nat}{D:List Nat}{Q:KX}(hc:jq id (av P f id)=true)(μ:ι→Nat)(sl:ι→List (Option TV))(tt:ι→VT)(Inv:ι→Prop)(N M:Nat)(hN:∀s,Inv s→(tt s).objs.length≤N∧(tt s).tails.length≤M)(hD:∀id∈D,id<N)
  (hbody:∀s,Inv s→VWx P G rd 0 (dh P f id) (jr (sl s)) (tt s) D (nt (λσ T D'=>D'=D∧B2 μ sl tt Inv N M s σ T) (oL id Q))):
  ∀s,Inv s→VWx P G rd 0 (av P f id) (jr (sl s)) (tt s) D Q:=by
 intro s hs
 rw [tF hc]
 exact VWx.block (VWx.loopS μ sl tt Inv N M hN hD hbody s hs)
def lT (G:aC):Prop:=∀n cs,G n=some cs→∃vs:List Value,cs=vs.map .val
theorem GOk.sub {g g':Gh}{w:World}{f h:Nat→Option Nat}(hv:lT G)(k:GOk G g w)(r:jx g g' f h):GOk G g' w:=λn cs hn=>by
 obtain ⟨vs,rfl⟩:=hv n cs hn
 have h1:=(k n _ hn).ren r
 simp only [TV.ren,up] at h1
 exact h1
theorem VCx.lift {ro:Nat}{f:FuncId}{xs ys:List TV}{T:VT}{Q:TV→VT→Prop}(is ks:List Nat)(hv:lT G)(hi:is.Nodup)(hk:ks.Nodup)(hil:∀i∈is,∃o,T.objs[i]?=some o∧o.live=true)(hkl:∀k∈ks,k<T.tails.length)(hro:∀i∈is,ro≤i)
  (hx:ay (am is) (am ks) ys=xs) (h:VCx P G 0 f xs (T.give is ks) Q) (hlen:∀x T',Q x T'→is.length≤T'.objs.length∧ks.length≤T'.tails.length):
  VCx P G ro f ys T λy T'' =>∃x T',Q x T'∧y=x.ren (aq T.objs.length is) (aq T.tails.length ks)∧T'' =T.back is ks T':=by
 intro g w us rw0 hG hxs
 have hargs:=hxs.ren (pM g T is ks)
 rw [hx] at hargs
 have hil':∀i∈is,i<T.objs.length:=λi h=>by obtain ⟨o,h1,_⟩:=hil i h;exact (List.getElem?_eq_some_iff.1 h1).1
 have r1:=rw0.give hi hk hil' hkl
 refine Calls.mono (h _ w _ r1 (hG.sub hv (pM g T is ks)) hargs) ?_
 rintro e w' ⟨v,x,gc,T',rfl,hq,e',r',hv',_⟩
 obtain ⟨l1,l2⟩:=hlen x T' hq
 obtain ⟨g',ev,rb,rn⟩:=uq rw0 hi hk hil hkl e' r' l1 l2
 obtain ⟨b1,b2,b3,b4⟩:=gO is T.objs (T'.objs.map (VO.ren (aq T.objs.length is) (aq T.tails.length ks))) hi hil' (by simpa using l1)
 refine ⟨v,_,g',_,rfl,⟨x,T',hq,rfl,rfl⟩,ev,rb,hv'.ren rn,?_,?_,?_⟩
 ·show T.objs.length≤(aS T.objs is _).length
  rw [b1];omega
 ·intro i hir hil2
  exact b2 i hil2 λhm=>absurd (hro i hm) (by omega)
 ·intro i o b hir ho hl hb
  have hnm:i∉is:=λhm=>absurd (hro i hm) (by omega)
  exact e'.frb b (.inr (.inl ⟨i,o,ho,hl,hnm,hb⟩))
theorem VCx.liftPure {ro:Nat}{f:FuncId}{xs ys:List TV}{T:VT}{y:TV}{K:TV→VT→Prop}(hv:lT G)(h:VCx P G 0 f xs ⟨[],[]⟩ λx T'=>x=y∧T'=⟨[],[]⟩)(hx:ay (am []) (am []) ys=xs)(hy:∀f h,y.ren f h=y)(k:K y T):VCx P G ro f ys T K:=by
 refine (VCx.lift (T:=T) [] [] hv List.nodup_nil List.nodup_nil (by simp) (by simp) (by simp) hx (by rw [VT.give_nil];exact h) (λ_ _ _=>⟨zero_le _,zero_le _⟩)).mono ?_
 rintro z T' ⟨x,T'',⟨rfl,rfl⟩,rfl,rfl⟩
 have hb:T.back [] [] ⟨[],[]⟩=T:=by rw [VT.back_nil];cases T;simp
 rw [hy,hb];exact k
def aE:List (FuncId × aZ)→FuncId→Option aZ
 |[],_=>none
 | (f,W)::l,g=>bif beq f g then some W else aE l g
theorem aJ:∀{l:List (FuncId × aZ)},(∀p∈l,∀ro xs T K,p.2 ro xs T K→VCx P G ro p.1 xs T K)→aT P G (aE l)
 |[],_=>λ_ _ h=>by cases h
 | (f,W)::l,h=>λg W' hW=>by
  simp only [aE] at hW
  cases hb:beq f g with
  |true=>
   rw [hb] at hW
   injection hW with hW;subst hW
   have:=eq_of_beq_eq_true hb
   subst this
   exact h _ mem_cons_self
  |false=>
   rw [hb] at hW
   exact aJ (λp hp=>h p (mem_cons_of_mem _ hp)) g W' hW
theorem aM {b:Bool}{X Y:Prop}(ht:b=true→X)(hf:b=false→Y):cond b X Y:=by
 cases b
 ·exact hf rfl
 ·exact ht rfl
theorem VCx.keepQ {f:FuncId}{xs:List TV}{T:VT}{Q:TV→VT→Prop}(n m:Nat)(hn:T.objs.length≤n)(hm:T.tails.length≤m)(h:VCx P G 0 f xs T λx T'=>Q (x.ren (ai n) (ai m)) (T'.keep n m)):VCx P G 0 f xs T Q:=by
 intro g w us rw0 hG hx
 refine Calls.mono (h g w us rw0 hG hx) ?_
 rintro e w' ⟨v,x,g',T',he,hq,e',r',hv,hfx⟩
 refine ⟨v,_,g'.keep n m,T'.keep n m,he,hq,e'.keep rw0 hn hm,r'.keep n m,hv.ren (qZ g' n m),?_,λi hi=>absurd hi (not_lt_zero i),λi o b hi=>absurd hi (not_lt_zero i)⟩
 simp only [VT.keep,length_map,length_take]
 have h1:=hfx.len
 omega
end
end
section
open Go.RowKit
section
variable {P:Program}
def Gu:TV→Bool
 | .val _ | .ptr .. | .sl .. | .map _ | .dead=>true
 |_=>false
def JJ (x:TV):TV:=if Gu x then x else .dead
def wQ (size k e:Nat)(n:Nat)(es':List (List TV))(σ:List TV):List TV:=σ.map λx=>match x with
 | .vec s es (.tail k' e')=>if s=size∧k'=k∧e'=e∧es.length=n then .vec size es' .none else .dead
 |x=>JJ x
theorem lV {g:Gh}{w:World}:∀{xs:List TV} {us us':List Value},xs.map bM=us.map some→VRs g w xs us'→us'=us
 |[],[],us',_,k=>List.eq_nil_of_length_eq_zero k.1
 |[],_::_,_,h,_=>by simp at h
 |_::_,[],_,h,_=>by simp at h
 |x::xs,u::us,us',h,k=>by
  simp only [map_cons,List.cons.injEq] at h
  cases us' with
  |nil=>have:=k.1;simp at this
  |cons u' us'=>
   have h1:=bS h.1 (k.2 0 x u' rfl rfl)
   have h2:=lV (us':=us') h.2 ⟨by have:=k.1;simpa using this,λj x u hx hu=>k.2 (j+1) x u (by simpa using hx) (by simpa using hu)⟩
   rw [h1,h2]
theorem VCalls.of_grT {f:FuncId}{xs:List TV}{us:List Value}{v:Value}(hx:xs.map bM=us.map some)(h:∀w,Calls P f us.toArray w λe w'=>e=.returned v∧Gr w w')(T:VT):VCalls P f xs T λx T'=>x=.val v∧T'=T:=by
 intro g w us' r hxs
 have:=lV hx hxs
 subst this
 refine (h w).mono ?_
 rintro e w' ⟨rfl,hg⟩
 exact ⟨v,.val v,g,T,rfl,⟨rfl,rfl⟩,Evo.of_gr r hg,r.gr hg,.val v⟩
end
end
section
open Go.ChangeShapes Go.WideShapes Go.ChangeAt Go.RowKit Go.Joins Go.Deep
def jT (w:World):Gh:=⟨λ_=>none,λb o=>(w.cell? ⟨b,o,none⟩).isSome=true,λb=>b<w.heap.size,λ_=>none⟩
theorem Hj (w:World):RW (jT w) ⟨[],[]⟩ w:=by
 refine ⟨(λid o h=>by simp at h),(λi j oi oj b h=>by simp at h),(λ_ _=>rfl),(λ_ _ h=>h),(λ_ h=>h),(λk p h=>by simp at h),(λ_ _=>rfl),(λi j x y b h=>nomatch h),(λi oi b k x h=>by simp at h),(λk x h=>nomatch h),(λk x h=>nomatch h),(λk x h=>nomatch h)⟩
section
variable {H:Type}{enc:TypeId × Value→H}{P:Program}{w:World}{base:Nat}{spare:Nat→Bool}{held:Bool}
end
end
section
open Go.ChangeShapes Go.WideShapes Go.ChangeAt Go.RowKit Go.Joins Go.Deep
def eQ (x:TV)(_:VT):Prop:=match x with
 | .val (.bool b)=>cond b True False
 |_=>False
theorem VCx.top {P:Program}{ro:Nat}{f:FuncId}{xs:List TV}{us:List Value}(h:VCx P (λ_=>none) ro f xs ⟨[],[]⟩ eQ)(w:World)(hx:VRs (jT w) w xs us):
  Calls P f us.toArray w λe w'=>e=.returned (.bool true)∧Gr w w':=by
 refine (h (jT w) w us (Hj w) (λ_ _ h=>nomatch h) hx).mono ?_
 rintro e w' ⟨u,x,g',T',rfl,hq,ev,_,hv,_⟩
 unfold eQ at hq
 split at hq
 ·rename_i b
  cases b with
  |false=>exact hq.elim
  |true=>
   rw [hv.val_inv]
   exact ⟨rfl,ev.os,ev.tape,ev.output,ev.size,λb hb=>ev.frb b hb⟩
 ·exact hq.elim

theorem VCx.trueOnly {P:Program}{G:aC}{f:FuncId}{xs:List TV}(h:VCx P G 0 f xs ⟨[],[]⟩ eQ):VCx P G 0 f xs ⟨[],[]⟩ λx T'=>x=.val (.bool true)∧T'=⟨[],[]⟩:=by
 refine VCx.keepQ 0 0 (le_refl _) (le_refl _) (h.mono λx T' hx=> ?_)
 unfold eQ at hx
 split at hx
 ·rename_i b
  cases b with
  |false=>exact hx.elim
  |true=>exact ⟨rfl,by simp [VT.keep]⟩
 ·exact hx.elim
def sD:aZ:=λ_ ys T K=>match ys with
 |[]=>K (.val (.bool true)) T
 |_::_=>False
theorem wR {P:Program}{G:aC}(hv:lT G){f:FuncId}(h:VCx P G 0 f [] ⟨[],[]⟩ eQ):∀ro ys T K,sD ro ys T K→VCx P G ro f ys T K:=by
 intro ro ys T K hk
 unfold sD at hk
 split at hk
 ·exact VCx.liftPure hv h.trueOnly rfl (λ_ _=>rfl) hk
 ·exact hk.elim
def oU (P:Program)(G:aC)(C:FuncId→Option aZ)(f:FuncId)(xs:List TV):Prop:=E2 P G C 3000 (λ_=>none) 0 f xs ⟨[],[]⟩ eQ
theorem AD {P:Program}{G:aC}{C:FuncId→Option aZ}(hm:P.follows .mixedOrders=true)(hB:ge P=true)(hC:aT P G C){f:FuncId}{xs:List TV}{X:Prop}(h:oU P G C f xs=X)(hx:X):VCx P G 0 f xs ⟨[],[]⟩ eQ:=by
 have h1:oU P G C f xs:=by rw [h];exact hx
 unfold oU at h1
 exact D0 hm hB hC ak h1
attribute [irreducible] oU
section
variable {H:Type}{enc:TypeId × Value→H}{P:Program}{w:World}{base:Nat}{spare:Nat→Bool}{held:Bool}
def mU (P:Program)(f:TypeId→Option (List TypeId)):Nat→List Field→Option (List TypeId)
 |_,[]=>some []
 |off,fd::r=>match f fd.type with
  |some ls=>bif beq fd.offset off&&beq (P.cellsOf fd.type) ls.length then (mU P f (off+ls.length) r).map (ls++ ·) else none
  |none=>none
def jE (P:Program):Nat→TypeId→Option (List TypeId)
 | 0,_=>none
 |n+1,t=>match P.underlying t with
  |some (.struct fs)=>mU P (jE P n) 0 fs.toList
  |some (.array ..)=>none
  |_=>some [t]
theorem sE {f:TypeId→Option (List TypeId)}{m:Nat}{cs:List Value}
  (hf:∀t ts sub x,f t=some ts→sub.length=ts.length→trod enc P w base spare held m t sub=some x→∀(j:Nat) t',ts[j]?=some t'→∃u m' y,sub[j]?=some u∧trod enc P w base spare held m' t' [u]=some y):
  ∀(l:List Field) (off:Nat) (ts:List TypeId),mU P f off l=some ts→cs.length=off+ts.length→(∀fd∈l,∃y,trod enc P w base spare held m fd.type ((cs.drop fd.offset).take (P.cellsOf fd.type))=some y)→
   ∀(j:Nat) t',ts[j]?=some t'→∃u m' y,cs[off+j]?=some u∧trod enc P w base spare held m' t' [u]=some y
 |[],off,ts,h,hl,hy,j,t',hj=>by
  simp only [mU] at h
  injection h with h;subst h
  simp at hj
 |fd::l,off,ts,h,hl,hy,j,t',hj=>by
  simp only [mU] at h
  split at h
  ·rename_i ls hls
   cases hb:(beq fd.offset off&&beq (P.cellsOf fd.type) ls.length) with
   |false=>rw [hb] at h;cases h
   |true=>
    rw [hb] at h
    simp only [and_eq_true] at hb
    have h1:=eq_of_beq_eq_true hb.1
    have h2:=eq_of_beq_eq_true hb.2
    simp only [cond_true,map_eq_some_iff] at h
    obtain ⟨ts',h3,rfl⟩:=h
    rw [List.length_append] at hl
    rcases lt_or_ge j ls.length with hj' | hj'
    ·rw [List.getElem?_append_left hj'] at hj
     obtain ⟨y,hy⟩:=hy fd (by simp)
     rw [h1,h2] at hy
     obtain ⟨u,m',y',k1,k2⟩:=hf _ _ _ _ hls (by rw [length_take,List.length_drop];omega) hy j t' hj
     refine ⟨u,m',y',?_,k2⟩
     rw [List.getElem?_take,if_pos hj',List.getElem?_drop] at k1
     exact k1
    ·rw [List.getElem?_append_right hj'] at hj
     obtain ⟨u,m',y',k1,k2⟩:=sE hf l (off+ls.length) ts' h3 (by omega) (λfd' h=>hy fd' (by simp [h])) (j-ls.length) t' hj
     refine ⟨u,m',y',?_,k2⟩
     rw [←k1]
     congr 1
     omega
  ·cases h
theorem oV:∀(n:Nat) (m:Nat) (t:TypeId) (ts:List TypeId) (cs:List Value) (x:DataW H × List MemPlace),jE P n t=some ts→cs.length=ts.length→trod enc P w base spare held m t cs=some x→
    ∀(j:Nat) t',ts[j]?=some t'→∃u m' y,cs[j]?=some u∧trod enc P w base spare held m' t' [u]=some y
  | 0,_,_,_,_,_,h,_,_=>by simp only [jE] at h;cases h
  |n+1,m,t,ts,cs,x,h,hl,ht=>by
    simp only [jE] at h
    split at h
    · rename_i fs hs
      obtain ⟨xs,m',_,_,_,hlen,hg⟩:=DataW.trod_struct hs ht
      intro j t' hj
      have:=sE (P:=P) (enc:=enc) (w:=w) (base:=base) (spare:=spare) (held:=held) (m:=m') (cs:=cs) (λt ts sub x h1 h2 h3=>oV n m' t ts sub x h1 h2 h3) fs.toList 0 ts h (by omega) ?_ j t' hj
      · simpa using this
      · intro fd hfd
        obtain ⟨i,hi,rfl⟩:=List.mem_iff_getElem.1 hfd
        have hi':i<fs.size:=by simpa using hi
        have h1:=hg i fs[i] (Array.getElem?_eq_getElem hi')
        have hx:i<xs.length:=by omega
        exact ⟨xs[i],by simpa [getElem?_eq_getElem hx] using h1⟩
    · cases h
    · injection h with h;subst h
      intro j t' hj
      match cs,hl with
      |[u],_=>
        have:j=0:=by
          rcases j with _ | j
          · rfl
          · simp at hj
        subst this
        simp at hj;subst hj
        exact ⟨u,m,x,rfl,ht⟩
theorem D3 {m ty:Nat}{u:Value}{y:DataW H × List MemPlace}{k:IntKind}(hk:P.underlying ty=some (.int k))(h:trod enc P w base spare held m ty [u]=some y):∃n,u=.int k n∧(Lit.int k n).wf=true:=by
 obtain ⟨n,e0,_,wn⟩:=DataW.trod_int hk h
 injection e0 with e0
 exact ⟨n,e0,wn⟩
end
end
section
open Go.ChangeShapes Go.WideShapes Go.ChangeAt Go.RowKit Go.Joins Go.Deep
section
variable {H:Type}{enc:TypeId × Value→H}{P:Program}{w:World}{base:Nat}{spare:Nat→Bool}{held:Bool}
end
end
section
open Go.ChangeShapes Go.WideShapes Go.ChangeAt Go.RowKit Go.Joins Go.Deep
theorem ri {α:Type}{k:Nat}:∀(l:List (List α)),(∀x∈l,x.length=k)→∀(j:Nat) u,l.flatten[j]?=some u→∃i c x,c<k∧j=i*k+c∧l[i]?=some x∧x[c]?=some u
 |[],_,j,u,h=>by simp at h
 |a::r,hz,j,u,h=>by
  have ha:=hz a (by simp)
  rw [flatten_cons] at h
  rcases lt_or_ge j a.length with hj | hj
  ·rw [List.getElem?_append_left hj] at h
   exact ⟨0,j,a,by omega,by omega,rfl,h⟩
  ·rw [List.getElem?_append_right hj] at h
   obtain ⟨i,c,x,h1,h2,h3,h4⟩:=ri r (λx hx=>hz x (by simp [hx])) _ u h
   refine ⟨i+1,c,x,h1,?_,by simpa using h3,h4⟩
   rw [Nat.add_mul];omega
section
variable {P:Program}{H:Type}{enc:TypeId × Value→H}{w:World}{base:Nat}{spare:Nat→Bool}{held:Bool}
end
end
section
open Go.ChangeShapes Go.WideShapes Go.ChangeAt Go.RowKit Go.Joins Go.Deep
inductive SH where
 |int (k:IntKind)
 |bool
 |str
 |slice (es:List SH)
mutual
def SH.Fits:SH→TV→Prop
 | .int k,x=>∃z,x=.val (.int k z)∧(Lit.int k z).wf=true
 | .bool,x=>∃b,x=.val (.bool b)
 | .str,x=>∃s:ByteArray,x=.val (.string s)∧s.size≤maxLen
 | .slice es,x=>∃l:List (List TV),x=.vec es.length l .none∧l.length≤maxLen∧∀e∈l,cU es e
def cU:List SH→List TV→Prop
 |[],[]=>True
 |s::ss,x::xs=>s.Fits x∧cU ss xs
 |_,_=>False
end
theorem uM:∀{ss:List SH} {xs:List TV},cU ss xs→xs.length=ss.length
 |[],[],_=>rfl
 |[],_::_,h=>by simp [cU] at h
 |_::_,[],h=>by simp [cU] at h
 |s::ss,x::xs,h=>by
  simp only [cU] at h
  simp [uM h.2]
theorem bb {s:SH}{ss:List SH}{xs:List TV}(h:cU (s::ss) xs):∃x r,xs=x::r∧s.Fits x∧cU ss r:=by
 cases xs with
 |nil=>simp [cU] at h
 |cons x r=>simp only [cU] at h;exact ⟨x,r,rfl,h⟩
theorem iv {xs:List TV}(h:cU [] xs):xs= []:=by
 cases xs with
 |nil=>rfl
 |cons x r=>simp [cU] at h
theorem cw {k:IntKind}{x:TV}(h:SH.Fits (.int k) x):∃z,x=.val (.int k z)∧(Lit.int k z).wf=true:=by simpa [SH.Fits] using h
theorem uN {x:TV}(h:SH.Fits .bool x):∃b,x=.val (.bool b):=by simpa [SH.Fits] using h
theorem AE {es:List SH}{x:TV}(h:SH.Fits (.slice es) x):∃l:List (List TV),x=.vec es.length l .none∧l.length≤maxLen∧∀e∈l,cU es e:=by simpa [SH.Fits] using h
def oW (f:TypeId→Option SH):List TypeId→Option (List SH)
 |[]=>some []
 |t::r=>match f t,oW f r with
  |some s,some l=>some (s::l)
  |_,_=>none
theorem yU {f:TypeId→Option SH}:∀{ts:List TypeId} {ss:List SH},oW f ts=some ss→ss.length=ts.length
 |[],ss,h=>by simp [oW] at h;subst h;rfl
 |t::r,ss,h=>by
  simp only [oW] at h
  split at h
  ·rename_i s l h1 h2
   injection h with h;subst h
   simp [yU h2]
  ·cases h
def yV (P:Program):Nat→TypeId→Option SH
 | 0,_=>none
 |n+1,t=>match P.underlying t with
  |some (.int k)=>some (.int k)
  |some .bool=>some .bool
  |some .string=>some .str
  |some (.slice e)=>match jE P n e with
   |some ts=>bif beq (P.cellsOf e) ts.length&&ble 1 ts.length then (oW (yV P n) ts).map .slice else none
   |none=>none
  |_=>none
section
variable {P:Program}{H:Type}{enc:TypeId × Value→H}{w:World}{base:Nat}{held:Bool}
abbrev wS (enc:TypeId × Value→H)(P:Program)(w:World)(base:Nat)(held:Bool)(t:TypeId)(sh:SH):Prop:=∀u m y,trod enc P w base (λ_=>true) held m t [u]=some y→u.oneCell'=true∧∃x,VR (jT w) w x u∧sh.Fits x
theorem rj {f:TypeId→Option SH}(hf:∀t sh,f t=some sh→wS enc P w base held t sh):∀(ts:List TypeId) (ss:List SH) (cs:List Value),oW f ts=some ss→cs.length=ts.length→
  (∀(j:Nat) t',ts[j]?=some t'→∃u m y,cs[j]?=some u∧trod enc P w base (λ_=>true) held m t' [u]=some y)→(∀u∈cs,u.oneCell'=true)∧∃xs,VRs (jT w) w xs cs∧cU ss xs
 |[],ss,cs,h,hl,_=>by
  simp [oW] at h;subst h
  have:=List.eq_nil_of_length_eq_zero hl
  subst this
  exact ⟨by simp,[],VRs.nil _ _,trivial⟩
 |t::r,ss,[],h,hl,_=>by simp at hl
 |t::r,ss,c::cs,h,hl,hj=>by
  simp only [oW] at h
  split at h
  ·rename_i s l h1 h2
   injection h with h;subst h
   obtain ⟨u,m,y,k1,k2⟩:=hj 0 t rfl
   simp at k1;subst k1
   obtain ⟨a1,x,a2,a3⟩:=hf t s h1 _ m y k2
   obtain ⟨b1,xs,b2,b3⟩:=rj hf r l cs h2 (by simpa using hl) λj t' ht'=>by
    obtain ⟨u,m,y,k1,k2⟩:=hj (j+1) t' (by simpa using ht')
    exact ⟨u,m,y,by simpa using k1,k2⟩
   refine ⟨λu hu=> ?_,x::xs,VRs.cons a2 b2,a3,b3⟩
   rcases mem_cons.1 hu with rfl | hu
   ·exact a1
   ·exact b1 u hu
  ·cases h
theorem sF {e:TypeId}{n:Nat}{ts:List TypeId}{f:TypeId→Option SH}{ss:List SH}(hf:∀t sh,f t=some sh→wS enc P w base held t sh)(hts:jE P n e=some ts)(hss:oW f ts=some ss):
    ∀(rows:List (List Value)),(∀x∈rows,x.length=ts.length∧∃m y,trod enc P w base (λ_=>true) held m e x=some y)→
      (∀u∈rows.flatten,u.oneCell'=true)∧∃l:List (List TV),l.length=rows.length∧VRs (jT w) w l.flatten rows.flatten∧∀x∈l,cU ss x
  |[],_=>⟨by simp,[],rfl,VRs.nil _ _,by simp⟩
  |r::rows,h=>by
    obtain ⟨h1,m,y,h2⟩:=h r mem_cons_self
    obtain ⟨a1,xs,a2,a3⟩:=rj hf ts ss r hss h1 (oV n m e ts r y hts h1 h2)
    obtain ⟨b1,l,b2,b3,b4⟩:=sF hf hts hss rows λx hx=>h x (mem_cons_of_mem _ hx)
    refine ⟨λu hu=> ?_,xs::l,by simp [b2],by rw [flatten_cons,flatten_cons];exact a2.app b3,λx hx=> ?_⟩
    · rw [flatten_cons] at hu
      rcases mem_append.1 hu with hu | hu
      · exact a1 u hu
      · exact b1 u hu
    · rcases mem_cons.1 hx with rfl | hx
      · exact a3
      · exact b4 x hx
theorem uP:∀(n:Nat) (t:TypeId) (sh:SH),yV P n t=some sh→wS enc P w base held t sh
 | 0,_,_,h=>by simp [yV] at h
 |n+1,t,sh,h=>by
  intro u m y hy
  simp only [yV] at h
  split at h
  ·rename_i k hk
   injection h with h;subst h
   obtain ⟨z,rfl,wz⟩:=D3 hk hy
   exact ⟨rfl,_,.val _,z,rfl,wz⟩
  ·rename_i hk
   injection h with h;subst h
   obtain ⟨b,e,_⟩:=DataW.trod_bool hk hy
   injection e with e;subst e
   exact ⟨rfl,_,.val _,b,rfl⟩
  ·rename_i hk
   injection h with h;subst h
   obtain ⟨s,e,_,hs⟩:=DataW.trod_string hk hy
   injection e with e;subst e
   exact ⟨rfl,_,.val _,s,rfl,hs⟩
  ·rename_i e ht
   split at h
   ·rename_i ts hts
    cases hb:(beq (P.cellsOf e) ts.length&&ble 1 ts.length) with
    |false=>rw [hb] at h;cases h
    |true=>
     rw [hb] at h
     simp only [and_eq_true] at hb
     have hk:=eq_of_beq_eq_true hb.1
     have hpos:=le_of_ble_eq_true hb.2
     simp only [cond_true,map_eq_some_iff] at h
     obtain ⟨ss,hss,rfl⟩:=h
     have hsl:=yU hss
     rcases open_slice ht hy with ⟨hcs,_⟩ | ⟨a,len,cap,m',n',D,Pl,hcs,hbb,hl,hm,hmm,hx,hall⟩
     ·injection hcs with hcs;subst hcs
      exact ⟨rfl,.vec ss.length [] .none,.nil trivial,[],rfl,zero_le _,by simp⟩
     ·injection hcs with hcs;subst hcs
      simp only [if_true] at hmm
      subst hmm
      rw [hk] at hall
      obtain ⟨b,o,sp⟩:=a
      rcases Nat.eq_zero_or_pos m' with hc0 | hc0
      ·subst hc0
       have:len=0:=by omega
       subst this
       exact ⟨rfl,.vec ss.length [] .none,.odd _ trivial,[],rfl,zero_le _,by simp⟩
      ·have hsp:sp=none:=by
        obtain ⟨cs',h1,_⟩:=hall 0 hc0
        obtain ⟨_,h3,h4⟩:=World.cells?_some h1
        have h5:=h4 0 hpos
        rw [getElem?_eq_getElem (by omega)] at h5
        cases sp with
        |none=>rfl
        |some s=>simp [cell?,Addr.add] at h5;split at h5<;>cases h5
       subst hsp
       obtain ⟨V,hV⟩:=choose_lt (α:=List Value) (p:=λi cs'=>w.cells? base ((⟨b,o,none⟩:Addr).add (i*ts.length)) ts.length=some cs'∧trod enc P w base (λ_=>true) held n' e cs'=some (D i,Pl i)) (λi hi=>hall i hi)
       have each:∀i,i<len→(V i).length=ts.length∧(∀c,c<ts.length→w.cell? ⟨b,o+(i*ts.length+c),none⟩=(V i)[c]?)∧∃y,trod enc P w base (λ_=>true) held n' e (V i)=some y:=λi hi=>by
        obtain ⟨h1,h2⟩:=hV i (by omega)
        obtain ⟨_,h3,h4⟩:=World.cells?_some h1
        refine ⟨h3,λc hc=> ?_,_,h2⟩
        rw [←h4 c hc]
        congr 1
        simp [Addr.add_none,Nat.add_assoc]
       have at1:∀(i:Nat) x,((List.range len).map V)[i]?=some x→i<len∧x=V i:=λi x hx=>by
        rw [getElem?_map] at hx
        rcases lt_or_ge i len with hi | hi
        ·rw [List.getElem?_range hi] at hx
         injection hx with hx
         exact ⟨hi,hx.symm⟩
        ·rw [List.getElem?_eq_none (by simpa using hi)] at hx;cases hx
       have hz:∀x∈(List.range len).map V,x.length=ts.length:=λx hx=>by
        obtain ⟨i,hi,rfl⟩:=mem_map.1 hx
        exact (each i (mem_range.1 hi)).1
       obtain ⟨k1,l,k2,k3,k4⟩:=sF (λt sh h=>uP n t sh h) hts hss ((List.range len).map V) λx hx=>by
        obtain ⟨i,hi,rfl⟩:=mem_map.1 hx
        obtain ⟨e1,_,y,e3⟩:=each i (mem_range.1 hi)
        exact ⟨e1,n',y,e3⟩
       have hlen:l.length=len:=by rw [k2];simp
       refine ⟨rfl,.vec ss.length l .none,?_,l,rfl,by omega,k4⟩
       refine .mk_vec hlen.symm hl hm (λx hx=>uM (k4 x hx)) trivial k3 (λj hj=> ?_) (λj u hu=> ?_) k1
       ·rw [←k3.1] at hj
        obtain ⟨i,c,x,h1,h2,h3,h4⟩:=ri _ hz j _ (getElem?_eq_getElem hj)
        obtain ⟨hi,rfl⟩:=at1 i x h3
        show (w.cell? ⟨b,o+j,none⟩).isSome=true
        rw [h2,(each i hi).2.1 c h1,h4];rfl
       ·obtain ⟨i,c,x,h1,h2,h3,h4⟩:=ri _ hz j u hu
        obtain ⟨hi,rfl⟩:=at1 i x h3
        rw [h2,(each i hi).2.1 c h1,h4]
   ·cases h
  ·cases h
theorem yy {n m:Nat}{t:TypeId}{ts:List TypeId}{ss:List SH}{fs:Array Field}{r:Reach}{b0:Nat}{v:Value}{d:DataW H}{p:List MemPlace}(ht:P.underlying t=some (.struct fs))(hts:jE P n t=some ts)(hlt:P.cellsOf t=ts.length)(hss:oW (yV P m) ts=some ss)
  (hv:okWide P w r b0 t v) (h:Trod enc P w base (λ_=>true) held t v d p):∃xs,VR (jT w) w (.agg xs) v∧cU ss xs:=by
 obtain ⟨⟨cs⟩,rfl,hsz⟩:=okWide_struct ht hv
 obtain ⟨fuel,hf⟩:=h
 have hl:cs.length=ts.length:=by rw [←hlt];simpa using hsz
 obtain ⟨_,xs,h1,h2⟩:=rj (λt sh h=>uP m t sh h) ts ss cs hss hl (oV n fuel t ts cs _ hts hl hf)
 exact ⟨xs,.mk_agg h1,h2⟩
def wT (P:Program)(n:Nat)(t:TypeId):Option (List SH):=match jE P n t with
 |some ts=>bif beq (P.cellsOf t) ts.length then oW (yV P n) ts else none
 |none=>none
theorem oX {n:Nat}{t:TypeId}{ss:List SH}{fs:Array Field}{r:Reach}{b0:Nat}{v:Value}{d:DataW H}{p:List MemPlace}(hs:wT P n t=some ss)(ht:P.underlying t=some (.struct fs))
  (hv:okWide P w r b0 t v) (h:Trod enc P w base (λ_=>true) held t v d p):∃xs,VR (jT w) w (.agg xs) v∧cU ss xs:=by
 unfold wT at hs
 split at hs
 ·rename_i ts hts
  cases hb:beq (P.cellsOf t) ts.length with
  |false=>rw [hb] at hs;cases hs
  |true=>
   rw [hb] at hs
   exact yy ht hts (eq_of_beq_eq_true hb) hs hv h
 ·cases hs
end
end
end Go.Proofs.YtgboehkdijjnkaaGreatDoor
namespace Go.Proofs
open Go.RowKit
open _root_.Array (getElem?_push mem_toList_iff replicate size_push)
open Go.BinOp (eql)
open _root_.Bool (and_eq_true not_eq_true' or_eq_true)
open Go.Calls (mono)
open _root_.Classical (not_forall)
open Go.DataW (Trod trod)
open Go.Fence (wide)
open Go.Frame (atR)
open _root_.Function (comp)
open Go.IntKind (i64 u32 wrap)
open _root_.List (all_eq_true any_eq_true find?_cons find?_eq_none find?_some flatten_cons getElem?_eq_getElem getElem?_map length length_cons length_map length_nil length_take map_congr_left map_cons map_id map_map mem_append mem_cons mem_cons_of_mem mem_cons_self mem_map mem_map_of_mem mem_range mem_singleton nodup_append nodup_cons take_length zipWith zipWith_cons_cons)
open _root_.Nat (beq beq_refl ble eq_of_beq_eq_true le_of_ble_eq_true le_refl le_trans lt_or_ge min_le_right not_lt_zero zero_add zero_le)
open Go.Oper (uponIn)
open _root_.Option (isSome_none map_eq_some_iff map_some)
open Go.Region (binds noSelect ready wanted)
open Go.Proofs.Tryz (func108 func95 isAgg0 isAgg158 isAgg25 isAgg3 isAgg4 isAgg52 prog sizeOf0 sizeOf158 sizeOf25 sizeOf3 sizeOf4 underlying0 underlying25 underlying3 underlying4 zeroValue0 zeroValue158 zeroValue25 zeroValue3 zeroValue4)
open Go.Value (okWide)
open Go.World (alloc_heap_new cell? putObj_size)
open Go.Shelf
def Tryz.keysI_ren:Go.Shelf.Ren:=⟨λ| 7=>97 | 10=>108 | n=>n,λ| 23=>123 | 26=>3 | 3=>62 | 28=>158 | 0=>0 | 27=>157 | 33=>52 | 4=>4 | n=>n,λ| n=>n⟩
theorem Tryz.keysI:Go.Proofs.SlLaysZI.n7 prog Tryz.keysI_ren:={
 mixed:=by kernel_rfl
 f7:=⟨Tryz.f97.name,by decide,Tryz.func97.trans (congrArg some (by kernel_rfl))⟩
 f10:=⟨Tryz.f108.name,by decide,func108.trans (congrArg some (by kernel_rfl))⟩
 t0:=underlying0
 a0:=isAgg0
 z0:=sizeOf0
 v0:=zeroValue0
 t4:=underlying4
 a4:=isAgg4
 z4:=sizeOf4
 v4:=zeroValue4
 t23:=Tryz.underlying123
 a23:=Tryz.isAgg123
 z23:=Tryz.sizeOf123
 v23:=Tryz.zeroValue123
 t26:=underlying3
 a26:=isAgg3
 z26:=sizeOf3
 v26:=zeroValue3
 t27:=Tryz.underlying157
 a27:=Tryz.isAgg157
 z27:=Tryz.sizeOf157
 v27:=Tryz.zeroValue157
 t28:=Tryz.underlying158
 a28:=isAgg158
 z28:=sizeOf158
 v28:=zeroValue158
 t33:=Tryz.underlying52
 a33:=isAgg52
 z33:=Tryz.sizeOf52
 v33:=Tryz.zeroValue52}
def Tryz.keysP_ren:Go.Shelf.Ren:=⟨λ| 7=>80 | 10=>96 | n=>n,λ| 23=>108 | 26=>3 | 3=>103 | 28=>158 | 0=>0 | 27=>157 | 33=>52 | 4=>4 | n=>n,λ| n=>n⟩
theorem Tryz.keysP:Go.Proofs.SlLaysZI.n7 prog Tryz.keysP_ren:={
 mixed:=by kernel_rfl
 f7:=⟨Tryz.f80.name,by decide,Tryz.func80.trans (congrArg some (by kernel_rfl))⟩
 f10:=⟨Tryz.f96.name,by decide,Tryz.func96.trans (congrArg some (by kernel_rfl))⟩
 t0:=underlying0
 a0:=isAgg0
 z0:=sizeOf0
 v0:=zeroValue0
 t4:=underlying4
 a4:=isAgg4
 z4:=sizeOf4
 v4:=zeroValue4
 t23:=Tryz.underlying108
 a23:=Tryz.isAgg108
 z23:=Tryz.sizeOf108
 v23:=Tryz.zeroValue108
 t26:=underlying3
 a26:=isAgg3
 z26:=sizeOf3
 v26:=zeroValue3
 t27:=Tryz.underlying157
 a27:=Tryz.isAgg157
 z27:=Tryz.sizeOf157
 v27:=Tryz.zeroValue157
 t28:=Tryz.underlying158
 a28:=isAgg158
 z28:=sizeOf158
 v28:=zeroValue158
 t33:=Tryz.underlying52
 a33:=isAgg52
 z33:=Tryz.sizeOf52
 v33:=Tryz.zeroValue52}
def Tryz.sortedI_ren:Go.Shelf.Ren:=⟨λ| 6=>79 | 8=>94 | 9=>95 | 11=>106 | 13=>100 | 12=>107 | 23=>117 | 24=>118 | 14=>132 | 15=>133 | 16=>134 | 17=>135 | 18=>136 | 19=>137 | 20=>138 | 21=>139 | 22=>140 | 25=>153 | 26=>142 | 27=>143 | 28=>154 | 29=>155 | 30=>98 | 31=>160 | n=>n,λ| 26=>3 | 28=>158 | 24=>25 | 0=>0 | 3=>3 | 37=>72 | 48=>29 | 50=>53 | 4=>4 | 40=>181 | 39=>180 | 45=>116 | 5=>5 | 9=>9 | 51=>203 | 55=>207 | 57=>216 | 58=>217 | 33=>52 | n=>n,λ| n=>n⟩
theorem Tryz.sortedI:Go.Proofs.SlLaysZI.n6 prog Tryz.sortedI_ren:={
 mixed:=by kernel_rfl
 f6:=⟨Tryz.f79.name,by decide,Tryz.func79.trans (congrArg some (by kernel_rfl))⟩
 f8:=⟨Tryz.f94.name,by decide,Tryz.func94.trans (congrArg some (by kernel_rfl))⟩
 f11:=⟨Tryz.f106.name,by decide,Tryz.func106.trans (congrArg some (by kernel_rfl))⟩
 t0:=underlying0
 a0:=isAgg0
 z0:=sizeOf0
 v0:=zeroValue0
 t24:=underlying25
 a24:=isAgg25
 z24:=sizeOf25
 v24:=zeroValue25
 t26:=underlying3
 a26:=isAgg3
 z26:=sizeOf3
 v26:=zeroValue3
 t28:=Tryz.underlying158
 a28:=isAgg158
 z28:=sizeOf158
 v28:=zeroValue158
 i26:=by kernel_rfl}
def Tryz.sortI_ren:Go.Shelf.Ren:=⟨λ| 5=>95 | 8=>100 | 7=>107 | 19=>117 | 20=>118 | 10=>132 | 11=>133 | 12=>134 | 13=>135 | 14=>136 | 15=>137 | 16=>138 | 17=>139 | 18=>140 | 30=>153 | 31=>142 | 32=>143 | 33=>154 | 34=>155 | 35=>98 | 40=>160 | n=>n,λ| 23=>25 | 25=>3 | 3=>3 | 32=>72 | 22=>25 | 0=>0 | 44=>29 | 46=>53 | 4=>4 | 36=>181 | 35=>180 | 41=>116 | 5=>5 | 9=>9 | 53=>203 | 57=>207 | 63=>216 | 64=>217 | n=>n,λ| n=>n⟩
theorem Tryz.sortI:Go.Proofs.SlLaysM.n5 prog Tryz.sortI_ren:={
 mixed:=by kernel_rfl
 f5:=⟨Tryz.f95.name,by decide,func95.trans (congrArg some (by kernel_rfl))⟩
 f7:=⟨Tryz.f107.name,by decide,Tryz.func107.trans (congrArg some (by kernel_rfl))⟩
 f8:=Tryz.func100.trans (congrArg some (by kernel_rfl))
 f10:=⟨Tryz.f132.name,by decide,Tryz.func132.trans (congrArg some (by kernel_rfl))⟩
 f11:=⟨Tryz.f133.name,by decide,Tryz.func133.trans (congrArg some (by kernel_rfl))⟩
 f12:=⟨Tryz.f134.name,by decide,Tryz.func134.trans (congrArg some (by kernel_rfl))⟩
 f13:=⟨Tryz.f135.name,by decide,Tryz.func135.trans (congrArg some (by kernel_rfl))⟩
 f14:=⟨Tryz.f136.name,by decide,Tryz.func136.trans (congrArg some (by kernel_rfl))⟩
 f15:=⟨Tryz.f137.name,by decide,Tryz.func137.trans (congrArg some (by kernel_rfl))⟩
 f16:=⟨Tryz.f138.name,by decide,Tryz.func138.trans (congrArg some (by kernel_rfl))⟩
 f17:=⟨Tryz.f139.name,by decide,Tryz.func139.trans (congrArg some (by kernel_rfl))⟩
 f18:=⟨Tryz.f140.name,by decide,Tryz.func140.trans (congrArg some (by kernel_rfl))⟩
 f19:=Tryz.func117.trans (congrArg some (by kernel_rfl))
 f20:=Tryz.func118.trans (congrArg some (by kernel_rfl))
 f30:=⟨Tryz.f153.name,by decide,Tryz.func153.trans (congrArg some (by kernel_rfl))⟩
 f31:=Tryz.func142.trans (congrArg some (by kernel_rfl))
 f32:=Tryz.func143.trans (congrArg some (by kernel_rfl))
 f33:=⟨Tryz.f154.name,by decide,Tryz.func154.trans (congrArg some (by kernel_rfl))⟩
 f34:=⟨Tryz.f155.name,by decide,Tryz.func155.trans (congrArg some (by kernel_rfl))⟩
 f35:=⟨Tryz.f98.name,by decide,Tryz.func98.trans (congrArg some (by kernel_rfl))⟩
 f40:=⟨Tryz.f160.name,by decide,Tryz.func160.trans (congrArg some (by kernel_rfl))⟩
 t0:=underlying0
 a0:=isAgg0
 z0:=sizeOf0
 v0:=zeroValue0
 t3:=underlying3
 a3:=isAgg3
 z3:=sizeOf3
 v3:=zeroValue3
 t4:=underlying4
 a4:=isAgg4
 z4:=sizeOf4
 v4:=zeroValue4
 t5:=Tryz.underlying5
 a5:=Tryz.isAgg5
 z5:=Tryz.sizeOf5
 v5:=Tryz.zeroValue5
 t9:=Tryz.underlying9
 a9:=Tryz.isAgg9
 z9:=Tryz.sizeOf9
 v9:=Tryz.zeroValue9
 t22:=underlying25
 a22:=isAgg25
 z22:=sizeOf25
 v22:=zeroValue25
 t23:=underlying25
 a23:=isAgg25
 z23:=sizeOf25
 v23:=zeroValue25
 t25:=underlying3
 a25:=isAgg3
 z25:=sizeOf3
 v25:=zeroValue3
 t32:=Tryz.underlying72
 a32:=Tryz.isAgg72
 z32:=Tryz.sizeOf72
 v32:=Tryz.zeroValue72
 t35:=Tryz.underlying180
 a35:=Tryz.isAgg180
 z35:=Tryz.sizeOf180
 v35:=Tryz.zeroValue180
 t36:=Tryz.underlying181
 a36:=Tryz.isAgg181
 z36:=Tryz.sizeOf181
 v36:=Tryz.zeroValue181
 t41:=Tryz.underlying116
 a41:=Tryz.isAgg116
 z41:=Tryz.sizeOf116
 v41:=Tryz.zeroValue116
 t44:=Tryz.underlying29
 a44:=Tryz.isAgg29
 z44:=Tryz.sizeOf29
 v44:=Tryz.zeroValue29
 t46:=Tryz.underlying53
 a46:=Tryz.isAgg53
 z46:=Tryz.sizeOf53
 v46:=Tryz.zeroValue53
 t53:=Tryz.underlying203
 a53:=Tryz.isAgg203
 z53:=Tryz.sizeOf203
 v53:=Tryz.zeroValue203
 t57:=Tryz.underlying207
 a57:=Tryz.isAgg207
 z57:=Tryz.sizeOf207
 v57:=Tryz.zeroValue207
 t63:=Tryz.underlying216
 a63:=Tryz.isAgg216
 z63:=Tryz.sizeOf216
 v63:=Tryz.zeroValue216
 t64:=Tryz.underlying217
 a64:=Tryz.isAgg217
 z64:=Tryz.sizeOf217
 v64:=Tryz.zeroValue217}
end Go.Proofs
namespace Go.Proofs.YtgboehkdijjnkaaGreatDoor
open Go.RowKit
open _root_.Array (getElem?_push mem_toList_iff replicate size_push)
open Go.BinOp (eql)
open _root_.Bool (and_eq_true not_eq_true' or_eq_true)
open Go.Calls (mono)
open _root_.Classical (not_forall)
open Go.DataW (Trod trod)
open Go.Fence (wide)
open Go.Frame (atR)
open _root_.Function (comp)
open Go.IntKind (i64 u32 wrap)
open _root_.List (all_eq_true any_eq_true find?_cons find?_eq_none find?_some flatten_cons getElem?_eq_getElem getElem?_map length length_cons length_map length_nil length_take map_congr_left map_cons map_id map_map mem_append mem_cons mem_cons_of_mem mem_cons_self mem_map mem_map_of_mem mem_range mem_singleton nodup_append nodup_cons take_length zipWith zipWith_cons_cons)
open _root_.Nat (beq beq_refl ble eq_of_beq_eq_true le_of_ble_eq_true le_refl le_trans lt_or_ge min_le_right not_lt_zero zero_add zero_le)
open Go.Oper (uponIn)
open _root_.Option (isSome_none map_eq_some_iff map_some)
open Go.Region (binds noSelect ready wanted)
open Go.Proofs.Tryz (func108 func95 isAgg0 isAgg158 isAgg25 isAgg3 isAgg4 isAgg52 prog sizeOf0 sizeOf158 sizeOf25 sizeOf3 sizeOf4 underlying0 underlying25 underlying3 underlying4 zeroValue0 zeroValue158 zeroValue25 zeroValue3 zeroValue4)
open Go.Value (okWide)
open Go.World (alloc_heap_new cell? putObj_size)
section
open Go.RowKit
section
variable {P:Program}{G:aC}
def p9:List Nat→List TV→Nat→Option TV
 |k::ks,v::vs,i=>bif beq k i then some v else p9 ks vs i
 |_,_,_=>none
def gT (n:Nat)(keys:List Nat)(vs:List TV):List (Option TV):=(List.range n).map (p9 keys vs)
def ax (n:Nat)(keys:List Nat)(vs:List TV):List TV:=jr (gT n keys vs)
def pick (keys:List Nat)(σ:List TV):List TV:=keys.map λt=>σ.getD t .dead
theorem sG (σ:List TV):∀(keys:List Nat) (i:Nat) (x:TV),p9 keys (pick keys σ) i=some x→x=σ.getD i .dead
 |[],_,_,h=>by simp [p9,pick] at h
 |k::ks,i,x,h=>by
  simp only [pick,map_cons,p9] at h
  cases hb:beq k i with
  |true=>
   rw [hb] at h
   have:=eq_of_beq_eq_true hb
   subst this
   injection h with h;exact h.symm
  |false=>rw [hb] at h;exact sG σ ks i x h
theorem wU:∀(σ:List TV) (m:List (Option TV)),m.length=σ.length→(∀(i:Nat) x,m[i]?=some (some x)→x=σ.getD i .dead)→LEs σ m
 |[],[],_,_=>trivial
 |[],_::_,h,_=>by simp at h
 |_::_,[],h,_=>by simp at h
 |x::l,none::m,h,k=>wU l m (by simpa using h) λi y hy=>by simpa using k (i+1) y (by simpa using hy)
 |x::l,some y::m,h,k=>⟨by simpa using (k 0 y rfl).symm,wU l m (by simpa using h) λi y hy=>by simpa using k (i+1) y (by simpa using hy)⟩
theorem nB (σ:List TV)(keys:List Nat):LEs σ (gT σ.length keys (pick keys σ)):=by
 refine wU _ _ (by simp [gT]) λi x hx=> ?_
 simp only [gT,getElem?_map,map_eq_some_iff] at hx
 obtain ⟨j,hj,hx⟩:=hx
 have e:j=i:=by
  have:=(List.getElem?_eq_some_iff.1 hj).2
  simpa using this.symm
 subst e
 exact sG σ keys j x hx
theorem D4 (f h:Nat→Option Nat)(keys:List Nat)(σ:List TV):pick keys (ay f h σ)=ay f h (pick keys σ):=by
 simp only [pick,c7,map_map]
 refine map_congr_left λt _=> ?_
 simp only [Function.comp_apply,List.getD_eq_getElem?_getD,getElem?_map]
 cases σ[t]?<;>simp [TV.ren]
def dl (keys:List Nat)(Q:Exit→List TV→VT→List Nat→Nat→Prop):KX:=λe σ T D=>Q e (pick keys σ) T D σ.length
theorem VWx.forget {rd:Option Nat}{ro:Nat}{c:Code}{σ:List TV}{T:VT}{n:Nat}{keys:List Nat}{K:KX}{Q:Exit→List TV→VT→Prop}(h:VWx P G rd ro c σ T [] (dl keys λe vs T D m=>D= []∧m=n∧Q e vs T))
  (k:∀e vs T,Q e vs T→K e (ax n keys vs) T []):VWx P G rd ro c σ T [] K:=by
 intro r g w a rw0 hG hσ hd hD hr
 refine wpIn_mono (h r g w a rw0 hG hσ hd hD hr) ?_
 rintro e a' w' ⟨g',σ',T',D',⟨rfl,rfl,hq⟩,e',r',hσ',h⟩
 exact ⟨g',_,T',[],k _ _ _ hq,e',r',(nB σ' keys).ok hσ',h⟩
def qb {ι:Type}(n id:Nat)(μ:ι→Nat)(sl:ι→List TV)(tt:ι→VT)(Inv:ι→Prop)(N M:Nat)(s:ι)(Post:Exit→List TV→VT→Prop):Exit→List TV→VT→List Nat→Nat→Prop:=λe vs T D m=>D= []∧m=n∧match e with
 | .normal=>∃s',Inv s'∧μ s' <μ s∧((T=tt s'∧vs=sl s')∨(T.keep N M=tt s'∧ay (ai N) (ai M) vs=sl s'))
 | .exit i=>cond (beq i id) (Post .normal vs T) (Post (.exit i) vs T)
 |e=>Post e vs T
theorem fc {ι:Type}{f:FuncId}{id:Nat}(hc:jq id (av P f id)=true)(n:Nat)(keys:List Nat)(μ:ι→Nat)(sl:ι→List TV)(tt:ι→VT)(Inv:ι→Prop)(N M:Nat)(hN:∀s,Inv s→(tt s).objs.length≤N∧(tt s).tails.length≤M)(Post:Exit→List TV→VT→Prop)
  (hbody:∀s,Inv s→VWx P G none 0 (dh P f id) (ax n keys (sl s)) (tt s) [] (dl keys (qb n id μ sl tt Inv N M s Post))):
  ∀s,Inv s→∀K:KX,(∀e vs T,Post e vs T→K e (ax n keys vs) T [])→VWx P G none 0 (av P f id) (ax n keys (sl s)) (tt s) [] K:=by
 intro s hs K hK
 refine VWx.forget (n:=n) (keys:=keys) (Q:=Post) ?_ hK
 refine VWx.blockS hc μ (λs=>gT n keys (sl s)) tt Inv N M hN (by simp) (λs hs=>(hbody s hs).mono λe σ T D hq=> ?_) s hs
 obtain ⟨rfl,hm,hq⟩:=hq
 cases e
 case normal=>
  refine ⟨rfl,?_⟩
  obtain ⟨s',h1,h2,h3⟩:=hq
  refine ⟨s',h1,h2,?_⟩
  rcases h3 with ⟨h3,h4⟩ | ⟨h3,h4⟩
  ·left;refine ⟨h3,?_⟩
   show LEs σ (gT n keys (sl s'))
   rw [←h4,←hm];exact nB σ keys
  ·right;refine ⟨h3,?_⟩
   show LEs _ (gT n keys (sl s'))
   rw [←h4,←D4,←hm]
   have:=nB (ay (ai N) (ai M) σ) keys
   rwa [show (ay (ai N) (ai M) σ).length=σ.length by rw [c7];simp] at this
 case exit i=>
  simp only [nt,oL]
  simp only at hq
  cases hb:beq i id<;>rw [hb] at hq
  ·exact ⟨rfl,hm,hq⟩
  ·exact ⟨rfl,hm,hq⟩
 all_goals exact ⟨rfl,hm,hq⟩
theorem VWx.adopt {rd:Option Nat}{ro:Nat}{c:Code}{σ:List TV}{T:VT}{D:List Nat}{Q:KX}(d size:Nat)(hd:σ[d]?=some (.val (.slice none 0 0)))
  (h:VWx P G rd ro c (σ.set d (.vec size [] (.tail T.tails.length 0))) {T with tails:=T.tails++ [(0,size,true)]} D Q):VWx P G rd ro c σ T D Q:=by
 intro r g w a rw0 hG hσ hdf hDs hrd
 obtain ⟨g1,e1,r1,ht⟩:=rw0.newTail size true
 obtain ⟨u,hu,hv⟩:=hσ.at hd
 have hv':=hv.val_inv
 subst hv'
 have h2:=(hσ.mono e1).set d (x:=.vec size [] (.tail T.tails.length 0)) (u:=.slice none 0 0) (.nil ⟨_,ht,le_refl _,rfl⟩)
 have h3:a.tmps.toList.set d (.slice none 0 0)=a.tmps.toList:=by
  apply List.ext_getElem?
  intro j
  rw [List.getElem?_set]
  split
  ·rename_i hj;subst hj;rw [hu,if_pos (List.getElem?_eq_some_iff.1 hu).1]
  ·rfl
 rw [h3] at h2
 refine wpIn_mono (h r g1 w a r1 (hG.mono e1) h2 (hdf.trans (jz e1 hDs).symm) (dX e1 hDs) (wl e1 hrd)) ?_
 rintro e a' w' ⟨g',σ',T',D',hq,e2,r',hσ',hd',hD',hx⟩
 exact ⟨g',σ',T',D',hq,e1.trans e2,r',hσ',hd',hD',⟨hx.len,λi hi hl=>hx.same i hi hl,λi o b hi ho hl hb=>hx.heap i o b hi ho hl (e1.obj i b hb)⟩⟩
def ey:List (Nat × Nat)→List TV→VT→List TV × VT
 |[],σ,T=>(σ,T)
 |p::l,σ,T=>ey l (σ.set p.1 (.vec p.2 [] (.tail T.tails.length 0))) {T with tails:=T.tails++ [(0,p.2,true)]}
def qd:List (Nat × Nat)→List TV→Prop
 |[],_=>True
 |p::l,σ=>σ[p.1]?=some (.val (.slice none 0 0))∧qd l (σ.set p.1 .dead)
def gX (n:Nat)(keys:List Nat)(ad:List (Nat × Nat))(vs0:List TV)(T0:VT)(R:KX→Prop):bH:=λrd ro σ T D K=>(rd=none∧ro=0∧D= []∧qd ad σ∧(ey ad σ T).2=T0∧beq σ.length n=true∧pick keys (ey ad σ T).1=vs0)∧R K
theorem uR {rd:Option Nat}{ro:Nat}{c:Code}{D:List Nat}{Q:KX}:∀(ad:List (Nat × Nat)) (σ σ':List TV) (T:VT),qd ad σ'→(∀(i:Nat),σ'[i]?=some (.val (.slice none 0 0))→σ[i]?=some (.val (.slice none 0 0)))→σ.length=σ'.length→
  VWx P G rd ro c (ey ad σ T).1 (ey ad σ T).2 D Q→VWx P G rd ro c σ T D Q
 |[],_,_,_,_,_,_,h=>h
 |p::l,σ,σ',T,ho,hs,hl,h=>by
  obtain ⟨h1,h2⟩:=ho
  refine VWx.adopt p.1 p.2 (hs _ h1) (uR l _ (σ'.set p.1 .dead) _ h2 (λi hi=> ?_) (by simpa using hl) h)
  rw [List.getElem?_set] at hi ⊢
  split
  ·rename_i e;subst e;rw [if_pos rfl] at hi;split at hi<;>simp at hi
  ·rename_i e;rw [if_neg e] at hi;exact hs i hi
theorem oY:∀(ad:List (Nat × Nat)) (σ:List TV) (T:VT),(ey ad σ T).1.length=σ.length
 |[],_,_=>rfl
 |p::l,σ,T=>by rw [ey,oY l];simp
theorem dy {c:Code}{n:Nat}{keys:List Nat}{ad:List (Nat × Nat)}{vs0:List TV}{T0:VT}{R:KX→Prop}(h:∀K,R K→VWx P G none 0 c (ax n keys vs0) T0 [] K):
  ∀rd ro σ T D K,gX n keys ad vs0 T0 R rd ro σ T D K→VWx P G rd ro c σ T D K:=by
 rintro rd ro σ T D K ⟨⟨rfl,rfl,rfl,ha,rfl,hn,rfl⟩,hR⟩
 obtain rfl:=eq_of_beq_eq_true hn
 refine uR ad σ σ T ha (λ_ h=>h) rfl ((h K hR).sub λg w us hu=> ?_)
 have:=(nB (ey ad σ T).1 keys).ok hu
 rwa [oY] at this
def di:List (Nat × bH × Code)→Nat→Option (bH × Code)
 |[],_=>none
 | (i,W,c)::l,j=>bif beq i j then some (W,c) else di l j
theorem cn:∀{l:List (Nat × bH × Code)},(∀p∈l,∀rd ro σ T D K,p.2.1 rd ro σ T D K→VWx P G rd ro p.2.2 σ T D K)→dS P G (di l)
 |[],_=>λ_ _ _ h=>by cases h
 | (i,W,c)::l,h=>λj W' c' hW=>by
  simp only [di] at hW
  cases hb:beq i j with
  |true=>
   rw [hb] at hW
   injection hW with hW;injection hW with h1 h2;subst h1 h2
   exact h _ mem_cons_self
  |false=>
   rw [hb] at hW
   exact cn (λp hp=>h p (mem_cons_of_mem _ hp)) j W' c' hW

def fu (xs:List TV)(y:TV):aZ:=λ_ ys T K=>ys=xs∧K y T
theorem oZ {f:FuncId}{xs:List TV}{y:TV}(hv:lT G)(hx:ay (am []) (am []) xs=xs)(hy:∀f h,y.ren f h=y)(h:VCx P G 0 f xs ⟨[],[]⟩ λx T'=>x=y∧T'=⟨[],[]⟩):
  ∀ro ys T K,fu xs y ro ys T K→VCx P G ro f ys T K:=by
 rintro ro ys T K ⟨rfl,hk⟩
 exact VCx.liftPure hv h hx hy hk
theorem VCx.ofCalls {f:FuncId}{xs:List TV}{y:TV}(hx:ay (am []) (am []) xs=xs)(h:VCalls P f xs ⟨[],[]⟩ λx T'=>x=y∧T'=⟨[],[]⟩)(hy:∀f h,y.ren f h=y):VCx P G 0 f xs ⟨[],[]⟩ λx T'=>x=y∧T'=⟨[],[]⟩:=
 (VCx.of_pure (T:=⟨[],[]⟩) h hx).mono λx T' hq=>by
  obtain ⟨h1,h2⟩:=hq
  exact ⟨by rw [h1,hy],h2⟩

def E3 (D:List TV→Option TV):aZ:=λ_ ys T K=>match D ys with
 |some y=>K y T
 |none=>False
theorem Hk {f:FuncId}{D:List TV→Option TV}(hv:lT G)(h:∀ys y,D ys=some y→ay (am []) (am []) ys=ys∧(∀f h,y.ren f h=y)∧VCx P G 0 f ys ⟨[],[]⟩ λx T'=>x=y∧T'=⟨[],[]⟩):
  ∀ro ys T K,E3 D ro ys T K→VCx P G ro f ys T K:=by
 intro ro ys T K hk
 unfold E3 at hk
 split at hk
 ·rename_i y hy
  obtain ⟨h1,h2,h3⟩:=h ys y hy
  exact VCx.liftPure hv h3 h1 h2 hk
 ·exact hk.elim
theorem cj {C:FuncId→Option aZ}(hm:P.follows .mixedOrders=true)(hB:ge P=true)(hC:aT P G C){F:iJ}{n:Nat}{L:Nat→Option (bH × Code)}(hL:dS P G L){rd:Option Nat}{ro:Nat}{c:Code}{σ:List TV}{T:VT}{D:List Nat}{K:KX}{X:Prop}
 (h:vx P G C F n L rd ro c σ T D K=X) (hx:X):VWx P G rd ro c σ T D K:=vE hm hB hC n n (le_refl _) F L hL _ _ _ _ _ _ _ (by rw [h];exact hx)
theorem an {C:FuncId→Option aZ}(hm:P.follows .mixedOrders=true)(hB:ge P=true)(hC:aT P G C){F:iJ}{n:Nat}{L:Nat→Option (bH × Code)}(hL:dS P G L){ro:Nat}{f:FuncId}{xs:List TV}{T:VT}{K:TV→VT→Prop}{X:Prop}
 (h:aK P G C F n L ro f xs T K=X) (hx:X):VCx P G ro f xs T K:=uL hm hB hC hL (by rw [h];exact hx)
def E4:List (Nat × TV)→Nat→Option (TV × Option VT)
 |[],_=>none
 | (t,x)::l,s=>bif beq t s then some (x,none) else E4 l s
def Hl (l:List (Nat × TV)):iJ:=λo _ _=>match o.dst with
 |some d=>E4 l d
 |none=>none
theorem AF {t e:TypeId}{inf:TypeInfo}{es:List (List TV)}{tok:Tok}{k:IntKind}{z:Int}{cs:List TV}(ht:P.underlying t=some (.slice e))(hi:P.info? e=some inf)(h0:0≤z)(he:es[z.toNat]?=some cs):
  eY P t (.vec inf.size es tok) (.val (.int k z))=some (.elt cs):=by
 simp [eY,ht,hi,h0,he]
theorem dH {t e:TypeId}{x i:Operand}{l:List (Nat × TV)}{inf:TypeInfo}{es:List (List TV)}{tok:Tok}{k:IntKind}{z:Int}{cs:List TV}(ht:P.underlying t=some (.slice e))(hi:P.info? e=some inf)
  (hx:au G l x=.vec inf.size es tok) (hz:au G l i=.val (.int k z)) (h0:0≤z) (he:es[z.toNat]?=some cs):aI P G (.indexAddr t x i) l (.elt cs):=by
 refine ⟨?_⟩
 simp only [aR,hx,hz,mF,AF ht hi h0 he]
end
end
section
open Go.RowKit
section
variable {P:Program}{G:aC}
theorem rl {t e:TypeId}{x i:Operand}{l:List (Nat × TV)}{inf:TypeInfo}{es:List (List TV)}{tok:Tok}{k:IntKind}{z:Int}(ht:P.underlying t=some (.slice e))(hi:P.info? e=some inf)
  (hx:au G l x=.vec inf.size es tok) (hz:au G l i=.val (.int k z)) (h0:0≤z) (he:z.toNat≤es.length):aI P G (.slice t x none (some i) none) l (.vec inf.size (es.take z.toNat) .none):=by
 refine ⟨?_⟩
 simp [aR,hx,hz,mJ,mG,mH,kL,ht,hi,gq,eZ,h0,he]
theorem rp {t e:TypeId}{x i:Operand}{l:List (Nat × TV)}{inf:TypeInfo}{es:List (List TV)}{tok:Tok}{k:IntKind}{z:Int}(ht:P.underlying t=some (.slice e))(hi:P.info? e=some inf)
  (hx:au G l x=.vec inf.size es tok) (hz:au G l i=.val (.int k z)) (h0:0≤z) (he:z.toNat≤es.length):aI P G (.slice t x (some i) none none) l (.vec inf.size (es.drop z.toNat) tok):=by
 refine ⟨?_⟩
 simp [aR,hx,hz,mJ,mG,mH,kL,ht,hi,gq,eZ,h0,he]
theorem iw {ro:Nat}{T T1:VT}{t e tx:TypeId}{s x:Operand}{l:List (Nat × TV)}{inf:TypeInfo}{z:Value}{es es2:List (List TV)}{k n:Nat}{bn:Bool}(ht:P.underlying t=some (.slice e))(hi:P.info? e=some inf)(hz:inf.zero=some z)(hzs:z.cells.size=inf.size)(hp:0<inf.size)
  (hsl:fQ (P.underlying tx)=true) (hs:ct T inf.size (au G l s)=some (es,k,n,bn,T1)) (hx:gv inf.size (au G l x)=some es2) (hb:(es.length+es2.length)*(inf.bytes+1)≤140737488355328):
  aN P G ro T (.call ⟨.builtin .append,#[s,x],#[t,tx]⟩) l (.vec inf.size (es++es2) (.tail k (n+es2.length))) {T1 with tails:=T1.tails.set k (n+es2.length,inf.size,bn)}:=by
 refine .old rfl ?_
 have h1:fA P T t tx (au G l s) (au G l x)=some (.vec inf.size (es++es2) (.tail k (n+es2.length)),{T1 with tails:=T1.tails.set k (n+es2.length,inf.size,bn)}):=by
  simp [fA,ht,hi,hz,hs,hx,hzs,hp,hsl,hb]
 simp [qr,cL,mC,kN,h1]
end
end
section
open Go.RowKit
section
variable {P:Program}{G:aC}
theorem az {b:Bool}{X Y:Prop}(h:b=false)(k:Y):cond b X Y:=by subst h;exact k
theorem aL {b:Bool}{X Y:Prop}(h:b=true)(k:X):cond b X Y:=by subst h;exact k
end
end
section
open Go.RowKit
section
variable {P:Program}{G:aC}
theorem B3 (vs:List Value):(vs.map λv=> [TV.val v]).flatten=vs.map .val:=by
 induction vs with
 |nil=>rfl
 |cons a l ih=>simp [ih]
end
end
section
open Go.RowKit Go.Maps Go.Sort Go.Shelf
abbrev uS:=79
abbrev tG:=108
theorem B4 (m:Nat):AnyZI.SortsIn prog Tryz.sortedI_ren wide m:=
 ⟨λblk off cap ss W hH hblk hsz=>callsIn_wide.2 (AnyM.slices_Sort_int Tryz.sortI blk off cap ss W hH hblk hsz),
 λp cap W=>callsIn_wide.2 (AnyM.slices_Sort_int_none Tryz.sortI p cap W)⟩
def kZ (_:Value):Option (DataW Unit × List MemPlace):=some (.nil,[])
def aB (z:Int):Value:=.int .i64 z
theorem D5 {z:Int}(h:0≤z∧z<1000):(Lit.int .i64 z).wf=true:=by
 simp only [Lit.wf]
 have e0:i64.min=-9223372036854775808:=by decide
 have e1:i64.max=9223372036854775807:=by decide
 simp [e0,e1];omega
theorem wV {x:MapEntry}{z:Int}(hx:x.key=aB z)(h:0≤z∧z<1000):Go.WideElems.rd prog 3 kZ x=some (.int .i64 z,.nil):=by
 unfold Go.WideElems.rd
 rw [hx,aB,keyOf_int_mk underlying3 (D5 h)]
 rfl
theorem lX {ms:List MapEntry}{ids:List Int}(hk:ms.map (·.key)=ids.map aB)(hw:∀z∈ids,0≤z∧z<1000):
  (intKeys (.map ((ms.map (Go.WideElems.rg prog 3 kZ)).foldr DataW.insert []):DataW Unit)).Perm ids:=by
 have h1:ms.map (Go.WideElems.rg prog 3 kZ)=ids.map λz=>(Lit.int .i64 z,(DataW.nil:DataW Unit)):=by
  induction ms generalizing ids with
  |nil=>
   cases ids with
   |nil=>rfl
   |cons z l=>simp at hk
  |cons x ms ih=>
   cases ids with
   |nil=>simp at hk
   |cons z l=>
    simp only [map_cons,List.cons.injEq] at hk ⊢
    refine ⟨?_,ih hk.2 λz hz=>hw z (mem_cons_of_mem _ hz)⟩
    unfold Go.WideElems.rg
    rw [wV hk.1 (hw z mem_cons_self)];rfl
 rw [h1]
 have h2:=Go.WideShapes.sorted_perm (H:=Unit) (ids.map λz=>(Lit.int .i64 z,(DataW.nil:DataW Unit)))
 have h3:=h2.map λp=>Go.intOf p.1
 have h4:(ids.map λz=>(Lit.int .i64 z,(DataW.nil:DataW Unit))).map (λp=>Go.intOf p.1)=ids:=by
  rw [map_map]
  exact (map_congr_left λz _=>rfl).trans (map_id _)
 rw [h4] at h3
 exact h3
theorem Hm {G:aC}{ro k m:Nat}{T:VT}{sh:KS}{look:Value→Option TV}{es:List (Value × TV × Nat)}{ck:Nat}{ids:List Int}(hk0:T.objs[k]?=some (.cells [.map m]))(hm0:T.objs[m]?=some (.map sh look es ck))(hk:es.map (·.1)=ids.map aB)(hw:∀z∈ids,0≤z∧z<1000)(hb1:∀e∈es,e.2.2<ck)(hb2:(es.map (·.2.2)).Nodup)(hn:ids.length≤100):
    VCx prog G ro uS [.fn (.func tG) [] [.ptr k 0]] T λx T'=>x=.vec 1 ((ids.mergeSort leI).map λz=> [.val (aB z)]) .none∧T'=T:=by
  intro g w us r hG hx
  match us,hx.1 with
  |[u],_=>
    obtain ⟨us',vs,rfl,h3,h4⟩:=(hx.2 0 _ u rfl rfl).fn_inv
    have e3:us'= []:=List.eq_nil_of_length_eq_zero h3.1
    subst e3
    match vs,h4 with
    |[v],h4=>
      obtain ⟨Bm,o1,rfl⟩:=(h4.2 0 _ v rfl rfl).ptr_inv
      obtain ⟨B0,p1,⟨us0,t0,p2,p3,_⟩,_,_⟩:=r.obj k _ hk0 rfl
      rw [o1] at p1;injection p1 with p1;subst p1
      obtain ⟨b,q1,⟨ms,q2,q3,q4,q5,q6,q7,q8⟩,_,_⟩:=r.obj m _ hm0 rfl
      have hBm:Bm<w.heap.size:=(Array.getElem?_eq_some_iff.1 p2).1
      have hbl:b<w.heap.size:=(Array.getElem?_eq_some_iff.1 q2).1
      have hcell:w.cell? ⟨Bm,0,none⟩=some (.map (some b)):=by
        match us0,p3 with
        |[x],p3=>
          obtain ⟨b2,r1,rfl⟩:=(p3.2 0 _ x rfl rfl).map_inv
          rw [q1] at r1;injection r1 with r1;subst r1
          simp [cell?,p2]
        |[],p3=>have:=p3.1;simp at this
        |_::_::_,p3=>have:=p3.1;simp at this
      have hkeys:ms.toList.map (·.key)=ids.map aB:=q3.trans hk
      have hlen:ms.toList.length=ids.length:=by have:=congrArg length hkeys;simpa using this
      have hown:w.ownsMap prog 3 kZ b ids.length (.map ((ms.toList.map (Go.WideElems.rg prog 3 kZ)).foldr DataW.insert [])):=by
        refine ⟨ms,ck,q2,⟨?_,⟨?_,?_,?_⟩,?_⟩,?_,rfl⟩
        · simp only [Array.length_toList] at hlen
          rw [hlen];unfold maxLen;omega
        · intro x hx
          have hm:x.born∈ms.toList.map (·.born):=mem_map_of_mem hx
          rw [q5] at hm
          obtain ⟨e,he,heq⟩:=mem_map.1 hm
          rw [←heq];exact hb1 e he
        · rw [q5];exact hb2
        · rw [q3];exact q7
        · intro x hx
          have hm:x.key∈ms.toList.map (·.key):=mem_map_of_mem hx
          rw [hkeys] at hm
          obtain ⟨z,hz,heq⟩:=mem_map.1 hm
          exact ⟨_,wV heq.symm (hw z hz)⟩
        · simp only [Array.length_toList] at hlen
          omega
      have hsz:Maps.size (.map ((ms.toList.map (Go.WideElems.rg prog 3 kZ)).foldr DataW.insert []):DataW Unit)=ids.length:=by
        simp only [Maps.size,DataW.length_sorted,length_map]
        exact hlen
      have hseq:SeqGives wide 2 prog tG #[.pointer (some ⟨Bm,0,none⟩)] encZ (λss=>ss.Perm (intKeys (.map ((ms.toList.map (Go.WideElems.rg prog 3 kZ)).foldr DataW.insert []):DataW Unit))) _ w:=
        AnyZI.keys_gives (ρ:=Tryz.keysI_ren) {Tryz.keysI with} wide _ trivial rfl (by omega) Bm b ids.length _ w hBm hcell hown
      have cS:=AnyZI.sorted_in Tryz.sortedI wide 5 trivial trivial trivial trivial rfl (by omega) (B4 _) (enters_of func95 (by kernel_rfl) rfl) tG #[.pointer (some ⟨Bm,0,none⟩)] trivial (enters_of func108 (by kernel_rfl) rfl) _ _ (by rw [hsz];unfold maxLen;omega) (by rw [hsz];omega) w hseq
      refine ((callsIn_wide (n:=5)).1 cS).mono ?_
      rintro e w' ⟨v,ss,rfl,hS,⟨hl,hrow⟩,_,gr⟩
      have hsort:ss.mergeSort (λx y=>decide (x≤y))=ids.mergeSort leI:=mergeSort_of_perm_i (hS.trans (lX hkeys hw))
      have hsl:ss.length=ids.length:=(hS.trans (lX hkeys hw)).length_eq
      rw [hsort] at hl hrow
      have r1:=r.gr gr
      have e1:=Evo.of_gr r gr
      have hms:(ids.mergeSort leI).length=ids.length:=List.length_mergeSort ids
      rcases hrow with ⟨rfl,h0⟩ | ⟨b',cap,cur,rfl,hb,hg,hnc,hcm,hcs,htk⟩
      · have h1:ids.mergeSort leI= []:=List.eq_nil_of_length_eq_zero (by omega)
        rw [h1]
        exact ⟨_,_,g,_,rfl,⟨rfl,rfl⟩,e1,r1,.nil trivial,Fix.of_same (Same.of_gr r gr) (by simp)⟩
      · have hnf:¬g.fr b':=λhf=>by have:=r.fr b' hf;omega
        have hcell':∀(j:Nat) u,((ids.mergeSort leI).map aB)[j]?=some u→w'.cell? ⟨b',0+j,none⟩=some u:=λj u hu=>by
          unfold cell?
          simp only [hg,zero_add]
          have hu':((ids.mergeSort leI).map encZ)[j]?=some u:=hu
          rw [←htk,List.getElem?_take] at hu'
          split at hu'
          · simpa using hu'
          · cases hu'
        have hfl:((ids.mergeSort leI).map λz=> [TV.val (aB z)]).flatten=((ids.mergeSort leI).map aB).map .val:=by
          have:=B3 ((ids.mergeSort leI).map aB)
          rw [map_map] at this
          exact this
        refine ⟨_,_,g.addSt b' (λo=>o<(ids.mergeSort leI).length),_,rfl,⟨rfl,rfl⟩,e1.trans (Evo.addSt hnf),r1.addSt hnf (λid o h hl'=>(r.fresh hb).obj id o h hl') (λk x o hx _ hin=>(r.fresh hb).tl k x hx (.inl ⟨o,hin⟩)) (λo ho=> ?_),?_,Fix.of_same (Same.of_gr r gr) (by simp)⟩
        · have:=hcell' o _ (by rw [getElem?_map,getElem?_eq_getElem ho];rfl)
          rw [zero_add] at this
          rw [this];rfl
        · refine .mk_vec (us:=(ids.mergeSort leI).map aB) (by simp [hms,hsl]) hnc hcm (λe he=>by obtain ⟨z,_,rfl⟩:=mem_map.1 he;rfl) trivial (by rw [hfl];exact VRs.vals _ _ _) (λj hj=>.inr ⟨rfl,?_⟩) hcell' (λu hu=>by obtain ⟨z,_,rfl⟩:=mem_map.1 hu;rfl)
          rw [hfl] at hj
          simpa using hj
    |[],h4=>have:=h4.1;simp at this
    |_::_::_,h4=>have:=h4.1;simp at this
end
section
open Go.RowKit
section
variable {P:Program}{G:aC}{g:Gh}{T:VT}{w:World}
theorem nC (r:RW g T w){id size off n:Nat}{es:List (List TV)}{u:Value}(h:ci T size (.row size id off n)=some es)(hx:VR g w (.row size id off n) u):
  ∃g',Evo g w g' w∧RW g' (T.kill id) w∧VR g' w (.vec size es .none) u:=by
 simp only [ci] at h
 split at h
 ·rename_i cs hid
  cases hb:(beq size size&&ble ((off+n)*size) cs.length) with
  |false=>rw [hb] at h;cases h
  |true=>
   rw [hb] at h;injection h with h;subst h
   simp only [and_eq_true] at hb
   have hle:=le_of_ble_eq_true hb.2
   obtain ⟨b,c,h1,h2,h3,h4,h5,rfl⟩:=hx.row_inv
   obtain ⟨b',q1,⟨us,t,q2,q3,q4,q5⟩,q6,q7⟩:=r.obj id _ hid rfl
   rw [h1] at q1;injection q1 with q1;subst q1
   rw [Nat.add_mul] at hle
   have hl:((cs.drop (off*size)).take (n*size)).length=n*size:=by simp;omega
   obtain ⟨k1,k2,k3⟩:=ek hl
   have hv:=(q4.drop (off*size)).take (n*size)
   have hl2:(((us.take cs.length).drop (off*size)).take (n*size)).length=n*size:=by simp;omega
   have hcell:∀(j:Nat) v,(((us.take cs.length).drop (off*size)).take (n*size))[j]?=some v→w.cell? ⟨b,off*size+j,none⟩=some v:=λj v hv=>by
    rw [cell?,q2]
    simp only [List.getElem?_take,List.getElem?_drop] at hv
    split at hv
    ·split at hv
     ·simpa using hv
     ·cases hv
    ·cases hv
   have fr:=ni r hid rfl h1
   have e:=Evo.addSt (g:=g) (w:=w) (S:=λo=>off*size≤o∧o<off*size+n*size) q6
   refine ⟨_,e,(r.kill hid rfl h1).addSt q6 fr.obj (λk x o hx _ hin=>fr.tl k x hx (.inl ⟨o,hin⟩)) (λo ho=> ?_),?_⟩
   ·have hj:o-off*size<(((us.take cs.length).drop (off*size)).take (n*size)).length:=by rw [hl2];omega
    have:=hcell (o-off*size) _ (getElem?_eq_getElem hj)
    rw [show off*size+(o-off*size)=o by omega] at this
    rw [this];rfl
   ·refine .mk_vec (us:=((us.take cs.length).drop (off*size)).take (n*size)) k1.symm h3 h4 k2 trivial (by rw [k3];exact hv.mono e) (λj hj=>.inr ⟨rfl,?_⟩) hcell (λu hu=>q5 u (List.mem_of_mem_drop (List.mem_of_mem_take hu)))
    rw [k3,hl] at hj
    omega
 ·cases h
end
end
section
open Go.RowKit
section
variable {P:Program}{G:aC}
def wW (T:VT):List (Nat × TV × Option (VT→VT))→Nat→Option (TV × Option VT)
 |[],_=>none
 | (t,y,g)::l,s=>bif beq t s then some (y,match g with | some g=>some (g T) | none=>none) else wW T l s
def bw (l:List (Nat × TV × Option (VT→VT))):iJ:=λo _ T=>match o.op with
 | .store _ (.tmp a) _=>wW T l (500000+a)
 |_=>match o.dst with
  |some d=>wW T l d
  |none=>none
theorem o4 {t e:TypeId}{x i:Operand}{l:List (Nat × TV)}{inf:TypeInfo}{id off n:Nat}{k:IntKind}{z:Int}(ht:P.underlying t=some (.slice e))(hi:P.info? e=some inf)
  (hx:au G l x=.row inf.size id off n) (hz:au G l i=.val (.int k z)) (h0:0≤z) (h1:z<n):aI P G (.indexAddr t x i) l (.ptr id (off*inf.size+z.toNat*inf.size)):=by
 refine ⟨?_⟩
 simp [aR,hx,hz,mF,ht,hi,h0,h1,beq_refl]
theorem k9 {ro:Nat}{T:VT}{t:TypeId}{a x:Operand}{l:List (Nat × TV)}{inf:TypeInfo}{id off:Nat}{cs new:List TV}(hi:P.info? t=some inf)
  (ha:au G l a=.ptr id off) (hx:bd (au G l x)=some new) (ho:T.objs[id]?=some (.row cs)) (hn:inf.size=new.length) (hle:off+new.length≤cs.length) (hc:new.all dB=true) (hro:ro≤id):
  aN P G ro T (.store t a x) l (.val undef) {T with objs:=T.objs.set id (.row (aU cs off new))}:=by
 refine .mk ?_
 have h1:aR P (.store t a x) (au G l)=none:=by simp [aR,cM]
 have h2:aH P T (.store t a x) (au G l)=none:=by simp [aH,cL]
 have h3:lI P ro T (.store t a x) (au G l)=some (.val undef,{T with objs:=T.objs.set id (.row (aU cs off new))}):=by
  simp only [lI,kw,ha,ho,hx,hi]
  rw [hn,beq_refl,Nat.ble_eq_true_of_le hle,hc,Nat.ble_eq_true_of_le hro];rfl
 simp only [eM,h1,h2,h3]
theorem sH {ro:Nat}{T:VT}{t e tx:TypeId}{s x:Operand}{l:List (Nat × TV)}{inf:TypeInfo}{z:Value}{q0:List TV}{qs:List (List TV)}{tok:Tok}(ht:P.underlying t=some (.slice e))(hi:P.info? e=some inf)(hz:inf.zero=some z)(hzs:z.cells.size=inf.size)(hz1:z.cells.toList.all Value.oneCell'=true)
  (hsl:fQ (P.underlying tx)=true) (hs:au G l s=.vec inf.size [] .full) (hx:au G l x=.vec inf.size (q0::qs) tok) (hb:(q0::qs).length*(inf.bytes+1)≤140737488355328):
  aN P G ro T (.call ⟨.builtin .append,#[s,x],#[t,tx]⟩) l (.row inf.size T.objs.length 0 (q0::qs).length) (T.newRow (q0::qs).flatten):=by
 refine .mk ?_
 have h1:aR P (.call ⟨.builtin .append,#[s,x],#[t,tx]⟩) (au G l)=none:=by simp [aR,cM]
 have h2:aH P T (.call ⟨.builtin .append,#[s,x],#[t,tx]⟩) (au G l)=none:=by simp [aH,cL,mC]
 have hr:ci T inf.size (.vec inf.size (q0::qs) tok)=some (q0::qs):=by simp [ci,beq_refl]
 have h4:r7 P T t tx (.vec inf.size [] .full) (.vec inf.size (q0::qs) tok)=none:=by simp [r7,ht]
 have h3:rV P ro T t tx (.vec inf.size [] .full) (.vec inf.size (q0::qs) tok)=some (.row inf.size T.objs.length 0 (q0::qs).length,T.newRow (q0::qs).flatten):=by
  unfold rV
  simp only [ht,hi,hz,hr,hzs,decide_true,hz1,hsl,Bool.and_self,cond_true,beq_refl,length_nil,zero_add,List.flatten_nil,List.nil_append,Nat.ble_eq_true_of_le hb]
 have h5:vA P ro T t tx (.vec inf.size [] .full) (.vec inf.size (q0::qs) tok)=none:=rfl
 simp only [eM,h1,h2,lI,hs,hx,hsl,h4,h5,h3,cond_true]
end
end
section
open Go.RowKit
abbrev uT (a1:Int):TV:=(.val (.int .u64 a1))
abbrev eF (a1:Bool):TV:=(.val (.bool a1))
abbrev dE (a1:List (List TV)):TV:=(.vec 3 a1 .none)
abbrev ar (a1:Int):TV:=(.val (.int .i64 a1))
abbrev Hn (a1:Int)(a2:Bool)(a3:List (List TV))(a4 a5:Int):List TV:= [(uT a1),(.ptr 120 0),(eF a2),(dE a3),(ar a4),(ar a5)]
abbrev la (a1:Int):TV:=(.val (.int .u32 a1))
abbrev gf (a1 a2 a3 a4 a5 a6:Int)(a7:Bool):VO:=(.cells [(ar a1),(la a2),(la a3),(ar a4),(ar a5),(ar a6),(eF a7)])
abbrev eG (a1:List (List TV)):TV:=(.vec 1 a1 .none)
abbrev dZ (a1:Int)(a2 a3 a4 a5 a6 a7 a8:List (List TV)):VO:=(.cells [(ar a1),(dE a2),(eG a3),(eG a4),(dE a5),(eG a6),(.vec 5 a7 .none),(eG a8)])
abbrev E5 (a1:Int)(a2 a3 a4 a5 a6 a7 a8:List (List TV))(a9 a10 a11 a12 a13 a14:Int)(a15:Bool):VT:=⟨[(dZ a1 a2 a3 a4 a5 a6 a7 a8),(gf a9 a10 a11 a12 a13 a14 a15)],[]⟩
abbrev tH (a1:Int)(a2 a3 a4 a5 a6 a7 a8:List (List TV)):List TV:= [(.agg [(ar a1),(dE a2),(eG a3),(eG a4),(dE a5),(eG a6),(.vec 5 a7 .none),(eG a8)])]
abbrev D6 (a1 a2 a3:Int)(a4:Bool):TV:=(.agg [(ar a1),(ar a2),(ar a3),(eF a4)])
abbrev hJ:TV:=(.val (.int .i64 2))
abbrev bB:TV:=(.val (.int .i64 0))
abbrev bX:TV:=(.val (.bool false))
abbrev Ho (a1:Int):TV:=(.agg [hJ,bB,(ar a1),bX])
abbrev tI (a1:Int):List TV:= [(.ptr 11 0),(ar a1)]
abbrev Hp (a1:Int):TV:=(.agg [(.val (.int .i64 1)),(ar a1),bB,bX])
abbrev jb:TV:=(.ptr 8 0)
abbrev jU:List TV:= [jb]
abbrev fH:TV:=(.val (.bool true))
abbrev Hq (a1:Int):TV:=(.agg [(.val (.int .i64 1)),(ar a1),bB,fH])
abbrev hP:TV:=(.ptr 6 0)
abbrev hZ (a1 a2 a3 a4 a5:Int):TV:=(.agg [(ar a1),(la a2),(la a3),(ar a4),(ar a5)])
abbrev AG (a1 a2 a3 a4 a5:Int):List TV:= [hP,(hZ a1 a2 a3 a4 a5)]
abbrev jV:TV:=(.ptr 2 0)
abbrev AH (a1:List (List TV))(a2 a3:Int):List TV:= [jV,(.ptr 3 0),(.ptr 15 0),(.vec 5 a1 .none),(ar a2),(ar a3)]
abbrev rq:TV:=(.val (.int .u32 0))
abbrev D7:VO:=(.cells [bB,rq,rq,bB,bB,bB,bB,(.ptr 4 0),(.ptr 4 0)])
abbrev D8:TV:=(.val (.int .i64 20))
abbrev D9:TV:=(.val (.int .i64 100))
abbrev Ea (a1:TV):VO:=(.cells [D8,D9,bB,a1,(.ptr 4 0),bB,bB])
abbrev dT (a1:Int)(a2:TV):VO:=(.cells [(ar a1),a2])
abbrev ce (a1 a2:TV):VO:=(.cells [a1,a2])
abbrev Eb:VO:=(.cells [hP,jb,(.ptr 11 0),(.ptr 12 0),(.ptr 13 0),(.ptr 14 0)])
abbrev nD (a1 a2 a3:Int):VO:=(.cells [(ar a1),(la a2),(ar a3)])
abbrev tJ (a1 a2:VO)(a3:Int)(a4 a5 a6 a7 a8 a9 a10:List (List TV))(a11 a12 a13 a14 a15 a16:TV)(a17:VO)(a18:TV)(a19:VO)(a20:Int)(a21:TV)(a22 a23:VO)(a24 a25:TV)(a26 a27 a28:VO)(a29 a30 a31:Int):VT:=⟨[a1,a2,(dZ a3 a4 a5 a6 a7 a8 a9 a10),(.cells [a11,a12,a13,a14,a15,a16]),D7,a17,(Ea a18),a19,(dT a20 a21),a22,a23,(ce a24 a25),a26,a27,a28,Eb,(nD a29 a30 a31)],[]⟩
abbrev o5 (a1:List (List TV))(a2 a3:Int):List TV:= [jV,(.ptr 3 0),(.ptr 15 0),(dE a1),(ar a2),(ar a3)]
abbrev tK (a1:Bool):TV:=(.elt [(eF a1)])
abbrev AI (a1 a2:VO)(a3:Int)(a4 a5 a6 a7 a8 a9 a10:List (List TV))(a11 a12 a13 a14 a15 a16:TV)(a17:VO)(a18:TV)(a19:VO)(a20:Int)(a21:TV)(a22 a23:VO)(a24 a25:TV)(a26 a27 a28:VO):VT:=⟨[a1,a2,(dZ a3 a4 a5 a6 a7 a8 a9 a10),(.cells [a11,a12,a13,a14,a15,a16]),D7,a17,(Ea a18),a19,(dT a20 a21),a22,a23,(ce a24 a25),a26,a27,a28,Eb],[]⟩
abbrev AJ (a1:List (List TV))(a2:Int):List TV:= [jV,(.ptr 3 0),(.ptr 15 0),(dE a1),(ar a2),bB]
abbrev wX (a1 a2 a3 a4 a5 a6 a7:Int):TV:=(.agg [(ar a1),(la a2),(la a3),(ar a4),(ar a5),(ar a6),(ar a7)])
abbrev Ec:TV:=(.tup [(.agg [bB,rq,rq,bB,bB,bB,bB]),bX])
abbrev Ed (a1:Int)(a2:TV)(a3 a4:Int):VO:=(.cells [D8,D9,(ar a1),a2,(.ptr 4 0),(ar a3),(ar a4)])
abbrev cV (a1:Nat):TV:=(.ptr a1 0)
abbrev dP:TV:=(.ptr 0 0)
abbrev dU:TV:=(.val (.slice .none 0 0))
abbrev jW:TV:=(.vec 3 [] (.tail 0 0))
abbrev AK (a1:Int)(a2:List (List TV))(a3:Int):List TV:= [dP,(ar a1),dU,jW,(dE a2),(ar a3),bB]
abbrev gg (a1:List (List TV))(a2:Nat):TV:=(.vec 3 a1 (.tail 0 a2))
abbrev Ee (a1:Int)(a2:List (List TV))(a3:Nat)(a4:List (List TV))(a5 a6:Int):List TV:= [dP,(ar a1),dU,(gg a2 a3),(dE a4),(ar a5),(ar a6)]
abbrev AL (a1 a2:TV)(a3 a4:VO)(a5 a6 a7:Int)(a8:List (Nat × Nat × Bool)):VT:=⟨[(ce a1 a2),a3,a4,(nD a5 a6 a7)],a8⟩
abbrev Hr:VO:=(.cells [bB,rq,bB])
abbrev wY (a1 a2 a3 a4 a5:Int):VO:=(.cells [(ar a1),(la a2),(la a3),(ar a4),(ar a5)])
abbrev Hs:TV:=(.tup [(.agg [bB,rq,bB]),bX])
abbrev tL (a1 a2 a3 a4 a5:Int)(a6:List (List TV)):List TV:= [(hZ a1 a2 a3 a4 a5),(dE a6)]
abbrev AM (a1 a2 a3 a4 a5 a6 a7 a8:Int)(a9:List (Nat × Nat × Bool)):VT:=⟨[(wY a1 a2 a3 a4 a5),(nD a6 a7 a8)],a9⟩
abbrev tM (a1 a2 a3:Int):TV:=(.elt [(ar a1),(la a2),(ar a3)])
abbrev Ef (a1 a2 a3 a4 a5:Int)(a6:List TV)(a7:List (Nat × Nat × Bool)):VT:=⟨[(wY a1 a2 a3 a4 a5),(.row a6)],a7⟩
abbrev AN (a1:List (List TV))(a2:Int)(a3:List (List TV))(a4:Int):List TV:= [(dE a1),(uT a2),jW,(dE a3),(ar a4),bB]
abbrev tN (a1 a2 a3 a4 a5:Int)(a6:List (Nat × Nat × Bool)):VT:=⟨[(wY a1 a2 a3 a4 a5)],a6⟩
abbrev o6 (a1 a2 a3 a4 a5:Int):List TV:= [(hZ a1 a2 a3 a4 a5)]
abbrev jc:VT:=⟨[],[]⟩
abbrev Eg (a1:TV)(a2:List (List TV))(a3:Nat)(a4:List (List TV))(a5 a6:Int):List TV:= [dP,a1,(gg a2 a3),(eG a4),(ar a5),(ar a6)]
abbrev mm (a1 a2 a3:Int)(a4 a5:Bool):VO:=(.cells [(ar a1),(la a2),(ar a3),(eF a4),(eF a5)])
abbrev tO (a1:Int)(a2:TV)(a3:VO)(a4:TV)(a5 a6 a7:Int)(a8 a9:Bool)(a10 a11 a12:Int)(a13 a14:Bool)(a15 a16 a17:Int)(a18 a19:Bool)(a20:List (Nat × Nat × Bool)):VT:=⟨[(dT a1 a2),a3,(.cells [a4]),(mm a5 a6 a7 a8 a9),(mm a10 a11 a12 a13 a14),(mm a15 a16 a17 a18 a19)],a20⟩
abbrev tP (a1:Int)(a2:TV)(a3:VO)(a4:TV)(a5:List (Nat × Nat × Bool)):VT:=⟨[(dT a1 a2),a3,(.cells [a4])],a5⟩
abbrev AO (a1:Int)(a2:TV)(a3 a4:VO)(a5 a6 a7:Int)(a8 a9:Bool)(a10 a11 a12:Int)(a13 a14:Bool):VT:=⟨[(dT a1 a2),a3,a4,(mm a5 a6 a7 a8 a9),(mm a10 a11 a12 a13 a14)],[]⟩
abbrev AP (a1 a2 a3:Int)(a4 a5:Bool):TV:=(.agg [(ar a1),(la a2),(ar a3),(eF a4),(eF a5)])
abbrev tQ (a1:TV)(a2:Int):List TV:= [dP,a1,(ar a2),jV]
abbrev nE (a1:Int)(a2:TV)(a3 a4:VO):VT:=⟨[(dT a1 a2),a3,a4],[]⟩
abbrev ia (a1:Int)(a2:TV)(a3:VO):VT:=⟨[(dT a1 a2),a3],[]⟩
abbrev o7 (a1:Int):List TV:= [dP,(ar a1)]
abbrev AQ (a1:Int)(a2:TV):List TV:= [dP,(ar a1),a2]
abbrev AR (a1:Int)(a2:TV)(a3:VO)(a4:Bool)(a5 a6 a7:Int)(a8 a9:Bool):VT:=⟨[(dT a1 a2),a3,(.cells [(eF a4)]),(mm a5 a6 a7 a8 a9)],[]⟩
abbrev mn (a1:Int)(a2:TV)(a3:VO)(a4:Bool):VT:=⟨[(dT a1 a2),a3,(.cells [(eF a4)])],[]⟩
abbrev Ht (a1:Int)(a2:TV)(a3:VO):VT:=⟨[(dT a1 a2),a3,(.cells [bB,rq,bB,bX,bX])],[]⟩
abbrev AS (a1:Int)(a2:TV)(a3:VO)(a4 a5 a6 a7 a8 a9:Int)(a10 a11:Bool):VT:=⟨[(dT a1 a2),a3,(nD a4 a5 a6),(mm a7 a8 a9 a10 a11)],[]⟩
abbrev wZ (a1 a2 a3:Int)(a4 a5 a6:Bool):TV:=(.tup [(AP a1 a2 a3 a4 a5),(eF a6)])
abbrev tR (a1:Int)(a2:TV)(a3:VO)(a4 a5 a6:Int):VT:=⟨[(dT a1 a2),a3,(nD a4 a5 a6)],[]⟩
abbrev AT (a1 a2 a3:Int):TV:=(.agg [(ar a1),(la a2),(ar a3)])
abbrev rt (a1:Int):TV:=(.elt [(ar a1)])
abbrev nF (a1 a2:TV)(a3 a4:VO)(a5:TV)(a6:List (Nat × Nat × Bool)):VT:=⟨[(ce a1 a2),a3,a4,(.cells [a5])],a6⟩
abbrev Eh:TV:=(.val (.int .i64 7))
abbrev o8 (a1 a2:TV)(a3 a4:VO)(a5 a6 a7 a8 a9 a10:Int):VT:=⟨[(ce a1 a2),a3,a4,(nD a5 a6 a7),(nD a8 a9 a10)],[]⟩
abbrev Ei (a1 a2 a3:Int)(a4:Bool):TV:=(.tup [(AT a1 a2 a3),(eF a4)])
abbrev o9 (a1 a2:TV)(a3 a4:VO)(a5 a6 a7:Int):VT:=⟨[(ce a1 a2),a3,a4,(nD a5 a6 a7)],[]⟩
abbrev k6 (a b:Int):Bool:=aj (Value.int i64 a) (Value.int i64 b)
end
section
open Go.RowKit
def ae:aC:=λ_=>none
def c9:FuncId→Option aZ:=λ_=>none
def bq:Nat→Option (bH × Code):=λ_=>none
abbrev B5:=31
abbrev B6:=33
abbrev E6:=82
abbrev pd:=81
def kI:KS:=⟨false,[.int .i64]⟩
def sT (lk lk2:Value→Option TV)(es es2:List (Value × TV × Nat))(ck ck2:Nat):VT:=⟨[.cells [.map 1,.map 2],.map kI lk es ck,.map kI lk2 es2 ck2],[]⟩
def da (i a c:Int):List TV:= [.val (.int .i64 i),.val (.int .u32 a),.val (.int .i64 c)]
def Hu (c u:Int):List TV:= [.val (.int .i64 c),.val (.int .i64 u)]
def E7 (lk lk2:Value→Option TV)(es es2:List (Value × TV × Nat))(ck ck2:Nat):VT:=⟨[.cells [.map 1,.map 2],.map kI lk es ck,.map kI lk2 es2 ck2,.cells [.map 1]],[]⟩
def Hv (T0:VT)(ids:List (List TV)):aZ:=λro ys T K=>(ro=0∧ys= [.fn (.func tG) [] [.ptr 3 0]]∧T=T0)∧K (.vec 1 ids .none) T
def w5:List Nat:= [0,2,3,14,15,16]
def tS (ids L:List (List TV))(j:Int):List TV:= [.ptr 0 0,.val (.slice none 0 0),.vec 3 L (.tail 0 L.length),.vec 1 ids .none,.val (.int .i64 ids.length),.val (.int .i64 j)]
def yW (lk lk2:Value→Option TV)(es es2:List (Value × TV × Nat))(ck ck2 n:Nat):VT:=⟨[.cells [.map 1,.map 2],.map kI lk es ck,.map kI lk2 es2 ck2,.cells [.map 1]],[(n,3,true)]⟩
def Hw (lk lk2:Value→Option TV)(es es2:List (Value × TV × Nat))(ck ck2:Nat)(ids S:List (List TV))(c0:Code):Nat→Option (bH × Code):=di [(0,gX 31 w5 [(3,3)] (tS ids [] 0) (yW lk lk2 es es2 ck ck2 0) λK=>K .normal (ax 31 w5 (tS ids S ids.length)) (yW lk lk2 es es2 ck ck2 S.length) [],c0)]
theorem JK (lk lk2:Value→Option TV)(es es2:List (Value × TV × Nat))(ck ck2:Nat)(i a c i' a' c':Int)(b:Bool)(Q:TV→VT→Prop):aK prog ae c9 (Hl [(17,.tup [.agg (da i' a' c'),.val (.bool b)])]) 300 bq 0 B5 [.ptr 0 0,.agg (da i a c)] (sT lk lk2 es es2 ck ck2) Q=
 (Aq prog (o9 (.map 1) (.map 2) (.map ⟨false,[(.int .i64)]⟩ (lk) (es) (ck)) (.map ⟨false,[(.int .i64)]⟩ (lk2) (es2) (ck2)) i a c) 123 (.map 1) (ar i) true (Ei i' a' c' b)∧
 (bif decide (i≥(0:Int))
 then (bif !decide (i≤(255:Int))
 then Q hJ (o8 (.map 1) (.map 2) (.map ⟨false,[(.int .i64)]⟩ (lk) (es) (ck)) (.map ⟨false,[(.int .i64)]⟩ (lk2) (es2) (ck2)) i a c i' a' c')
 else (bif bE eql (aj (Value.int u32 a) (Value.int u32 (0:Int)))
 then Q hJ (o8 (.map 1) (.map 2) (.map ⟨false,[(.int .i64)]⟩ (lk) (es) (ck)) (.map ⟨false,[(.int .i64)]⟩ (lk2) (es2) (ck2)) i a c i' a' c')
 else (bif decide (c≥(0:Int))
 then (bif !decide (c≤(1000000:Int))
 then Q hJ (o8 (.map 1) (.map 2) (.map ⟨false,[(.int .i64)]⟩ (lk) (es) (ck)) (.map ⟨false,[(.int .i64)]⟩ (lk2) (es2) (ck2)) i a c i' a' c')
 else (bif b
 then Q (.val (.int .i64 13)) (o8 (.map 1) (.map 2) (.map ⟨false,[(.int .i64)]⟩ (lk) (es) (ck)) (.map ⟨false,[(.int .i64)]⟩ (lk2) (es2) (ck2)) i a c i' a' c')
 else (bif decide ((↑(length es):Int)≥(8:Int))
 then Q (.val (.int .i64 6)) (o8 (.map 1) (.map 2) (.map ⟨false,[(.int .i64)]⟩ (lk) (es) (ck)) (.map ⟨false,[(.int .i64)]⟩ (lk2) (es2) (ck2)) i a c i' a' c')
 else Q bB (o8 (.map 1) (.map 2) (.map ⟨false,[(.int .i64)]⟩ (λkk=>(bif aj (Value.int i64 i) kk then (.some (.agg [(.val (.int .i64 (i))),(.val (.int .u32 (a))),(.val (.int .i64 (c)))])) else (lk kk))) (bt (.int .i64 (i)) (.agg [(.val (.int .i64 (i))),(.val (.int .u32 (a))),(.val (.int .i64 (c)))]) (ck) (es)) (match lk (Value.int i64 i) with
|some val=>ck
|none=>ck+(1:Nat))) (.map ⟨false,[(.int .i64)]⟩ (lk2) (es2) (ck2)) i a c i' a' c'))))
 else Q hJ (o8 (.map 1) (.map 2) (.map ⟨false,[(.int .i64)]⟩ (lk) (es) (ck)) (.map ⟨false,[(.int .i64)]⟩ (lk2) (es2) (ck2)) i a c i' a' c'))))
 else Q hJ (o8 (.map 1) (.map 2) (.map ⟨false,[(.int .i64)]⟩ (lk) (es) (ck)) (.map ⟨false,[(.int .i64)]⟩ (lk2) (es2) (ck2)) i a c i' a' c'))):=by kernel_rfl
theorem JL (lk lk2:Value→Option TV)(es es2:List (Value × TV × Nat))(ck ck2:Nat)(i c u i' a' c':Int)(b:Bool)(Q:TV→VT→Prop):aK prog ae c9 (bw [(20,.tup [.agg (da i' a' c'),.val (.bool b)],some λT=>T)]) 300 bq 0 B6 [.ptr 0 0,.val (.int .i64 i),.val (.int .i64 c),.val (.int .i64 u)] (sT lk lk2 es es2 ck ck2) Q=
 (aN prog (λ_=>.none) 0 ⟨[(ce (.map 1) (.map 2)),(.map ⟨false,[(.int .i64)]⟩ (lk) (es) (ck)),(.map ⟨false,[(.int .i64)]⟩ (lk2) (es2) (ck2))],[]⟩ (.lookup 123 (.tmp 18) (.tmp 19) true) [(18,(.map 1)),(19,(ar i))] (Ei i' a' c' b) ⟨[(ce (.map 1) (.map 2)),(.map ⟨false,[(.int .i64)]⟩ (lk) (es) (ck)),(.map ⟨false,[(.int .i64)]⟩ (lk2) (es2) (ck2))],[]⟩∧
 (bif !b
 then Q Eh (o9 (.map 1) (.map 2) (.map ⟨false,[(.int .i64)]⟩ (lk) (es) (ck)) (.map ⟨false,[(.int .i64)]⟩ (lk2) (es2) (ck2)) i' a' c')
 else (bif decide (c≥(0:Int))
 then (bif !decide (c≤(1000000:Int))
 then Q hJ (o9 (.map 1) (.map 2) (.map ⟨false,[(.int .i64)]⟩ (lk) (es) (ck)) (.map ⟨false,[(.int .i64)]⟩ (lk2) (es2) (ck2)) i' a' c')
 else (bif decide (u≥(0:Int))
 then (bif !decide (u≤(1099511627776:Int))
 then Q hJ (o9 (.map 1) (.map 2) (.map ⟨false,[(.int .i64)]⟩ (lk) (es) (ck)) (.map ⟨false,[(.int .i64)]⟩ (lk2) (es2) (ck2)) i' a' c')
 else Q bB (o9 (.map 1) (.map 2) (.map ⟨false,[(.int .i64)]⟩ (lk) (es) (ck)) (.map ⟨false,[(.int .i64)]⟩ (λkk=>(bif aj (Value.int i64 i) kk then (.some (.agg [(.val (.int .i64 (c))),(.val (.int .i64 (u)))])) else (lk2 kk))) (bt (.int .i64 (i)) (.agg [(.val (.int .i64 (c))),(.val (.int .i64 (u)))]) (ck2) (es2)) (match lk2 (Value.int i64 i) with
|some val=>ck2
|none=>ck2+(1:Nat))) i' a' c'))
 else Q hJ (o9 (.map 1) (.map 2) (.map ⟨false,[(.int .i64)]⟩ (lk) (es) (ck)) (.map ⟨false,[(.int .i64)]⟩ (lk2) (es2) (ck2)) i' a' c')))
 else Q hJ (o9 (.map 1) (.map 2) (.map ⟨false,[(.int .i64)]⟩ (lk) (es) (ck)) (.map ⟨false,[(.int .i64)]⟩ (lk2) (es2) (ck2)) i' a' c')))):=by kernel_rfl
theorem E8 (lk lk2:Value→Option TV)(es es2:List (Value × TV × Nat))(ck ck2:Nat)(i n c' u':Int)(b:Bool)(Q:TV→VT→Prop):aK prog ae c9 (bw [(18,.tup [.agg (Hu c' u'),.val (.bool b)],some λT=>T)]) 300 bq 0 E6 [.ptr 0 0,.val (.int .i64 i),.val (.int .i64 n)] (sT lk lk2 es es2 ck ck2) Q=
 (aN prog (λ_=>.none) 0 ⟨[(ce (.map 1) (.map 2)),(.map ⟨false,[(.int .i64)]⟩ (lk) (es) (ck)),(.map ⟨false,[(.int .i64)]⟩ (lk2) (es2) (ck2))],[]⟩ (.lookup 124 (.tmp 16) (.tmp 17) true) [(16,(.map 2)),(17,(ar i))] (.tup [(.agg [(ar c'),(ar u')]),(eF b)]) ⟨[(ce (.map 1) (.map 2)),(.map ⟨false,[(.int .i64)]⟩ (lk) (es) (ck)),(.map ⟨false,[(.int .i64)]⟩ (lk2) (es2) (ck2))],[]⟩∧
 (bif !b
 then Q bB ⟨[(ce (.map 1) (.map 2)),(.map ⟨false,[(.int .i64)]⟩ (lk) (es) (ck)),(.map ⟨false,[(.int .i64)]⟩ (lk2) (es2) (ck2)),(.cells [(ar c'),(ar u')])],[]⟩
 else (bif decide (n≥u')
 then Q bB ⟨[(ce (.map 1) (.map 2)),(.map ⟨false,[(.int .i64)]⟩ (lk) (es) (ck)),(.map ⟨false,[(.int .i64)]⟩ (lk2) (es2) (ck2)),(.cells [(ar c'),(ar u')])],[]⟩
 else Q (ar c') ⟨[(ce (.map 1) (.map 2)),(.map ⟨false,[(.int .i64)]⟩ (lk) (es) (ck)),(.map ⟨false,[(.int .i64)]⟩ (lk2) (es2) (ck2)),(.cells [(ar c'),(ar u')])],[]⟩))):=by kernel_rfl
theorem JM (lk lk2:Value→Option TV)(es es2:List (Value × TV × Nat))(ck ck2:Nat)(ids S:List (List TV))(Q:TV→VT→Prop):aK prog ae (aE [(uS,Hv (E7 lk lk2 es es2 ck ck2) ids)]) bv 300 (Hw lk lk2 es es2 ck ck2 ids S (av prog pd 0)) 0 pd [.ptr 0 0] (sT lk lk2 es es2 ck ck2) Q=
 (((@Eq (Nat) 0 0)∧
 ((@Eq (List TV) [(.fn (.func tG) [] [(.ptr 3 0)])] [(.fn (.func tG) [] [(.ptr 3 0)])])∧
 (@Eq (VT) ⟨[(ce (.map 1) (.map 2)),(.map ⟨false,[(.int .i64)]⟩ (lk) (es) (ck)),(.map ⟨false,[(.int .i64)]⟩ (lk2) (es2) (ck2)),(.cells [(.map 1)])],[]⟩ ⟨[(ce (.map 1) (.map 2)),(.map ⟨false,[(.int .i64)]⟩ (lk) (es) (ck)),(.map ⟨false,[(.int .i64)]⟩ (lk2) (es2) (ck2)),(.cells [(.map 1)])],[]⟩)))∧
 ((av prog pd (0:Nat)=av prog pd (0:Nat))∧
 (((@Eq (Option Nat) .none .none)∧
 ((@Eq (Nat) 0 0)∧
 ((@Eq (List Nat) [] [])∧
 (((@Eq (Option TV) (.some dU) (.some dU))∧
 True)∧
 ((@Eq (VT) (nF (.map 1) (.map 2) (.map ⟨false,[(.int .i64)]⟩ (lk) (es) (ck)) (.map ⟨false,[(.int .i64)]⟩ (lk2) (es2) (ck2)) (.map 1) [(0,(3,true))]) (nF (.map 1) (.map 2) (.map ⟨false,[(.int .i64)]⟩ (lk) (es) (ck)) (.map ⟨false,[(.int .i64)]⟩ (lk2) (es2) (ck2)) (.map 1) [(0,(3,true))]))∧
 ((@Eq (Bool) true true)∧
 (@Eq (List TV) [dP,dU,jW,(eG ids),(ar (↑(length ids):Int)),bB] [dP,dU,jW,(eG ids),(ar (↑(length ids):Int)),bB])))))))∧
 Q (gg S (length S)) (nF (.map 1) (.map 2) (.map ⟨false,[(.int .i64)]⟩ (lk) (es) (ck)) (.map ⟨false,[(.int .i64)]⟩ (lk2) (es2) (ck2)) (.map 1) [((length S),(3,true))])))):=by kernel_rfl
theorem B7 (lk lk2:Value→Option TV)(es es2:List (Value × TV × Nat))(ck ck2:Nat)(ids L:List (List TV))(z i a c:Int)(j:Nat)(Q:Exit→List TV→VT→List Nat→Nat→Prop):vx prog ae c9 (bw [(999998,.dead,none),(18,.elt [.val (.int .i64 z)],none),(26,.agg (da i a c),some λT=>T),(28,.vec 3 (L++ [da i a c]) (.tail 0 (L.length+1)),some λT=>{T with tails:= [(L.length+1,3,true)]})]) 300 bq none 0 (dh prog pd 0) (ax 31 w5 (tS ids L j)) (yW lk lk2 es es2 ck ck2 L.length) [] (dl w5 Q)=
 (bif decide ((↑j:Int)<(↑(length ids):Int))
 then (aI prog (λ_=>.none) (.indexAddr 25 (.tmp 14) (.tmp 16)) [(14,(eG ids)),(16,(ar (↑j:Int)))] (rt z)∧
 (aN prog (λ_=>.none) 0 (nF (.map 1) (.map 2) (.map ⟨false,[(.int .i64)]⟩ (lk) (es) (ck)) (.map ⟨false,[(.int .i64)]⟩ (lk2) (es2) (ck2)) (.map 1) [((length L),(3,true))]) (.lookup 123 (.tmp 24) (.tmp 25) false) [(24,(.map 1)),(25,(ar z))] (AT i a c) (nF (.map 1) (.map 2) (.map ⟨false,[(.int .i64)]⟩ (lk) (es) (ck)) (.map ⟨false,[(.int .i64)]⟩ (lk2) (es2) (ck2)) (.map 1) [((length L),(3,true))])∧
 (aN prog (λ_=>.none) 0 (nF (.map 1) (.map 2) (.map ⟨false,[(.int .i64)]⟩ (lk) (es) (ck)) (.map ⟨false,[(.int .i64)]⟩ (lk2) (es2) (ck2)) (.map 1) [((length L),(3,true))]) (.call ⟨(.builtin .append),#[(.tmp 20),(.tmp 27)],#[24,24]⟩) [(20,(gg L (length L))),(27,(.vec 3 [[(.val (.int .i64 (i))),(.val (.int .u32 (a))),(.val (.int .i64 (c)))]] .full))] (gg (L++ [da i a c]) (length L+(1:Nat))) (nF (.map 1) (.map 2) (.map ⟨false,[(.int .i64)]⟩ (lk) (es) (ck)) (.map ⟨false,[(.int .i64)]⟩ (lk2) (es2) (ck2)) (.map 1) [((length L+(1:Nat)),(3,true))])∧
 Q .normal [dP,dU,(gg (L++ [da i a c]) (length L+(1:Nat))),(eG ids),(ar (↑(length ids):Int)),(ar (wrap i64 ((↑j:Int)+(1:Int))))] (nF (.map 1) (.map 2) (.map ⟨false,[(.int .i64)]⟩ (lk) (es) (ck)) (.map ⟨false,[(.int .i64)]⟩ (lk2) (es2) (ck2)) (.map 1) [((length L+(1:Nat)),(3,true))]) [] 31)))
 else Q (.exit 0) [dP,dU,(gg L (length L)),(eG ids),(ar (↑(length ids):Int)),(ar (↑j:Int))] (nF (.map 1) (.map 2) (.map ⟨false,[(.int .i64)]⟩ (lk) (es) (ck)) (.map ⟨false,[(.int .i64)]⟩ (lk2) (es2) (ck2)) (.map 1) [((length L),(3,true))]) [] 31):=by kernel_rfl
end
section
open Go.RowKit Go.Maps Go.Sort
theorem ah:prog.follows .mixedOrders=true:=by kernel_rfl
theorem ag:ge prog=true:=by kernel_rfl
theorem bc:lT ae:=λ_ _ h=>by cases h
abbrev aO:=Int × Int × Int
def ix (s:aO):TV:=.agg (da s.1 s.2.1 s.2.2)
def bf (s:aO):List TV:=da s.1 s.2.1 s.2.2
structure SitesOk (lk:Value→Option TV) (es:List (Value × TV × Nat)) (ck:Nat) (S:List aO) (st:List Nat):Prop where
 look:lk=λk=>(S.find? λs=>aj (aB s.1) k).map ix
 ents:es=zipWith (λs b=>(aB s.1,ix s,b)) S st
 slen:st.length=S.length
 nd:(S.map (·.1)).Nodup
 ids:∀s∈S,0≤s.1∧s.1<256
 born:∀b∈st,b<ck
 borns:st.Nodup
 few:S.length≤8
theorem w6:∀{S:List aO} {st:List Nat},st.length=S.length→(zipWith (λs b=>(aB s.1,ix s,b)) S st).map (·.1)=(S.map (·.1)).map aB
 |[],[],_=>rfl
 |[],_::_,h=>by simp at h
 |_::_,[],h=>by simp at h
 |s::S,b::st,h=>by
  simp only [zipWith_cons_cons,map_cons]
  rw [w6 (by simpa using h)]
theorem w7:∀{S:List aO} {st:List Nat},st.length=S.length→(zipWith (λs b=>(aB s.1,ix s,b)) S st).map (·.2.2)=st
 |[],[],_=>rfl
 |[],_::_,h=>by simp at h
 |_::_,[],h=>by simp at h
 |s::S,b::st,h=>by
  simp only [zipWith_cons_cons,map_cons]
  rw [w7 (by simpa using h)]
theorem SitesOk.keys {lk:Value→Option TV}{es:List (Value × TV × Nat)}{ck:Nat}{S:List aO}{st:List Nat}(h:SitesOk lk es ck S st):es.map (·.1)=(S.map (·.1)).map aB:=by
 rw [h.ents,w6 h.slen]
theorem SitesOk.stamps {lk:Value→Option TV}{es:List (Value × TV × Nat)}{ck:Nat}{S:List aO}{st:List Nat}(h:SitesOk lk es ck S st):es.map (·.2.2)=st:=by
 rw [h.ents,w7 h.slen]
theorem SitesOk.len {lk:Value→Option TV}{es:List (Value × TV × Nat)}{ck:Nat}{S:List aO}{st:List Nat}(h:SitesOk lk es ck S st):es.length=S.length:=by
 have:=congrArg length h.keys
 simpa using this
theorem Lk (a b:Int):aj (aB a) (aB b)=(a==b):=rfl
theorem SitesOk.at {lk:Value→Option TV}{es:List (Value × TV × Nat)}{ck:Nat}{S:List aO}{st:List Nat}(h:SitesOk lk es ck S st)(z:Int):lk (aB z)=(S.find? λs=>s.1==z).map ix:=by
 rw [h.look];rfl
theorem Gv (f g:Nat→Option Nat)(s:aO):(ix s).ren f g=ix s:=rfl
theorem SitesOk.ren {lk:Value→Option TV}{es:List (Value × TV × Nat)}{ck:Nat}{S:List aO}{st:List Nat}(h:SitesOk lk es ck S st)(f g:Nat→Option Nat):VO.ren f g (.map kI lk es ck)=.map kI lk es ck:=by
 have h1:(λk=>(lk k).map (TV.ren f g))=lk:=by
  funext k
  rw [h.look]
  simp only
  cases S.find? λs=>aj (aB s.1) k<;>rfl
 have h2:es.map (λe=>(e.1,e.2.1.ren f g,e.2.2))=es:=by
  rw [h.ents]
  have go:∀(S:List aO) (st:List Nat),(zipWith (λs b=>(aB s.1,ix s,b)) S st).map (λe=>(e.1,e.2.1.ren f g,e.2.2))=zipWith (λs b=>(aB s.1,ix s,b)) S st:=by
   intro S
   induction S with
   |nil=>intro st;rfl
   |cons s S ih=>
    intro st
    cases st with
    |nil=>rfl
    |cons b st=>simp only [zipWith_cons_cons,map_cons,ih st,Gv]
  exact go S st
 simp only [VO.ren,h1,h2]
def bU (S:List aO):List Int:=(S.map (·.1)).mergeSort leI
theorem JN {lk lk2:Value→Option TV}{es es2:List (Value × TV × Nat)}{ck ck2:Nat}{S:List aO}{st:List Nat}(h:SitesOk lk es ck S st):∀ro ys T K,Hv (E7 lk lk2 es es2 ck ck2) ((bU S).map λz=> [.val (aB z)]) ro ys T K→VCx prog ae ro uS ys T K:=by
 rintro ro ys T K ⟨⟨rfl,rfl,rfl⟩,hk⟩
 refine (Hm (k:=3) (m:=1) (T:=E7 lk lk2 es es2 ck ck2) rfl rfl h.keys (λz hz=> ?_) (λe he=> ?_) (by rw [h.stamps];exact h.borns) (by simp;have:=h.few;omega)).mono ?_
 ·obtain ⟨s,hs,rfl⟩:=mem_map.1 hz
  have:=h.ids s hs
  omega
 ·have hm:e.2.2∈es.map (·.2.2):=mem_map_of_mem he
  rw [h.stamps] at hm
  exact h.born _ hm
 ·rintro x T' ⟨rfl,rfl⟩
  exact hk
theorem lY (S:List aO):(bU S).length=S.length:=by simp [bU,List.length_mergeSort]
def bC (S:List aO):List aO:=(bU S).map λz=>(S.find? λs=>s.1==z).getD (0,0,0)
theorem Gw {S:List aO}{j:Nat}(hj:j<(bU S).length):∃s,S.find? (λs=>s.1==(bU S)[j])=some s∧(bC S)[j]?=some s:=by
 have hm:(bU S)[j]∈S.map (·.1):=(List.mergeSort_perm (S.map (·.1)) leI).mem_iff.1 (List.getElem_mem hj)
 obtain ⟨s0,hs0,he⟩:=mem_map.1 hm
 cases hf:S.find? λs=>s.1==(bU S)[j] with
 |none=>
  have:=find?_eq_none.1 hf s0 hs0
  simp [he] at this
 |some s=>
  refine ⟨s,rfl,?_⟩
  unfold bC
  rw [getElem?_map,getElem?_eq_getElem hj,map_some,hf];rfl
theorem nG:∃inf:TypeInfo,prog.info? 62=some inf∧inf.size=3∧inf.bytes+1≤1000∧inf.zero=some (.agg #[.int .i64 0,.int .u32 0,.int .i64 0]):=
 ⟨(prog.info? 62).getD default,by kernel_rfl,by kernel_rfl,le_of_ble_eq_true (by kernel_rfl),by kernel_rfl⟩
end
section
open Go.RowKit Go.Maps Go.Sort
theorem sI {T T1:VT}{s x:Operand}{l:List (Nat × TV)}{es es2:List (List TV)}{k n:Nat}{bn:Bool}(hs:ct T 3 (au ae l s)=some (es,k,n,bn,T1))(hx:gv 3 (au ae l x)=some es2)(hb:es.length+es2.length≤3000):
    aN prog ae 0 T (.call ⟨.builtin .append,#[s,x],#[24,24]⟩) l (.vec 3 (es++es2) (.tail k (n+es2.length))) {T1 with tails:=T1.tails.set k (n+es2.length,3,bn)}:=by
  obtain ⟨inf,i_at,i_size,i_bytes,i_zero⟩:=nG
  have h:=iw (inf:=inf) (P:=prog) (G:=ae) (ro:=0) (T:=T) (T1:=T1) (t:=24) (tx:=24) (s:=s) (x:=x) (l:=l) (es:=es) (es2:=es2) (k:=k) (n:=n) (bn:=bn) Tryz.underlying24 i_at i_zero (by rw [i_size];rfl) (by rw [i_size];decide) (by kernel_rfl) (by rw [i_size];exact hs) (by rw [i_size];exact hx)
    (by have h1:=i_bytes
        have h2:=Nat.mul_le_mul hb h1
        omega)
  rw [i_size] at h
  exact h
theorem ed {G:aC}{T:VT}{t:TypeId}{m k:Operand}{ok:Bool}{l:List (Nat × TV)}{y:TV}(h:cQ prog T t (au G l m) (au G l k) ok=some y):aN prog G 0 T (.lookup t m k ok) l y T:=by
 refine .mk ?_
 have h1:aR prog (.lookup t m k ok) (au G l)=none:=by simp [aR,cM]
 have h2:aH prog T (.lookup t m k ok) (au G l)=some y:=by simp only [aH,h]
 simp only [eM,h1,h2]
theorem pf {T:VT}{lk:Value→Option TV}{es:List (Value × TV × Nat)}{ck id:Nat}{z:Int}(hid:T.objs[id]?=some (.map kI lk es ck))(ok:Bool):cQ prog T 123 (.map id) (.val (aB z)) ok=some (cf ok (lk (aB z)) (.agg #[.int .i64 0,.int .u32 0,.int .i64 0])):=by
 have h:∀o:Option VO,o=some (.map kI lk es ck)→(match prog.underlying 123,bM (.val (aB z)) with
   |some (.map kt et),some kv=>match bY prog kt,prog.info? et with
    |some sh,some i=>match i.zero with
     |some zz=>bif sh.fits kv then (match o with
       |some (.map sh' look _ _)=>bif fG sh sh' then some (cf ok (look kv) zz) else none
       |_=>none) else none
     |none=>none
    |_,_=>none
   |_,_=>none)=some (cf ok (lk (aB z)) (.agg #[.int .i64 0,.int .u32 0,.int .i64 0])):=by
  rintro _ rfl
  kernel_rfl
 exact h _ hid
def pg (S:List aO):List (List TV):=(bU S).map λz=> [.val (aB z)]
theorem ib {x i:Operand}{l:List (Nat × TV)}{L:List (List TV)}{tok:Tok}{k:IntKind}{z:Int}{e:List TV}(hx:au ae l x=.vec 1 L tok)(hz:au ae l i=.val (.int k z))(h0:0≤z)(he:L[z.toNat]?=some e):
  aI prog ae (.indexAddr 25 x i) l (.elt e):=
 dH (inf:=(prog.info? 3).getD default) underlying25 (by kernel_rfl) hx hz h0 he
theorem Gx {lk lk2:Value→Option TV}{es es2:List (Value × TV × Nat)}{ck ck2:Nat}{S:List aO}{st:List Nat}(h:SitesOk lk es ck S st):dS prog ae (Hw lk lk2 es es2 ck ck2 (pg S) ((bC S).map bf) (av prog pd 0)):=cn λp hp=>by
 obtain rfl:=mem_singleton.1 hp
 refine dy λK hK=> ?_
 have hlen:(pg S).length=(bU S).length:=length_map _
 have hlb:(bC S).length=(bU S).length:=length_map _
 have hfew:=h.few
 have hil:=lY S
 let sl:Nat→List TV:=λj=>tS (pg S) (((bC S).take j).map bf) j
 let TT:Nat→VT:=λj=>yW lk lk2 es es2 ck ck2 (((bC S).take j).map bf).length
 let Post:Exit→List TV→VT→Prop:=λe vs T=>e=.normal∧vs=sl (bU S).length∧T=TT (bU S).length
 refine fc (f:=pd) (id:=0) (by kernel_rfl) 31 w5 (λj=>(bU S).length-j) sl TT (λj=>j≤(bU S).length) 4 1 (λ_ _=>⟨le_refl _,le_refl _⟩)
  Post (λj hj=> ?_) 0 (zero_le _) K (λe vs T ⟨h1,h2,h3⟩=> ?_)
 ·by_cases hlt:j<(bU S).length
  ·obtain ⟨s,hf,hs⟩:=Gw hlt
   have hw:=fL j (by omega)
   have hl:lk (aB (bU S)[j])=some (ix s):=by rw [h.at,hf];rfl
   have he:(pg S)[j]?=some [.val (aB (bU S)[j])]:=by unfold pg;rw [getElem?_map,getElem?_eq_getElem hlt];rfl
   have hstep:((bC S).take (j+1)).map bf=((bC S).take j).map bf++ [da s.1 s.2.1 s.2.2]:=by
    rw [List.take_add_one,hs];simp [bf]
   have htl:(((bC S).take j).map bf).length≤100:=by simp only [length_map,length_take];omega
   refine cj ah ag aw ak (B7 lk lk2 es es2 ck ck2 (pg S) (((bC S).take j).map bf) (bU S)[j] s.1 s.2.1 s.2.2 j _) ?_
   refine aL (decide_eq_true (by omega)) ⟨ib rfl rfl (Int.natCast_nonneg _) (by simp only [Int.toNat_natCast];exact he),ed ((pf (lk:=lk) (es:=es) (ck:=ck) rfl false).trans (by rw [hl];rfl)),sI (T1:=TT j) (es2:= [da s.1 s.2.1 s.2.2]) (by simp [au,dL,ct,TT,yW,kI]) rfl (by simp only [length_cons,length_nil];omega),rfl,rfl,j+1,hlt,by simp only;omega,.inl ⟨?_,?_⟩⟩
   ·simp only [TT,hstep,List.length_append,length_cons,length_nil];rfl
   ·simp only [sl,tS,hw,hstep,List.length_append,length_cons,length_nil]
  ·obtain rfl:j=(bU S).length:=by omega
   refine cj ah ag aw ak (B7 lk lk2 es es2 ck ck2 (pg S) (((bC S).take (bU S).length).map bf) 0 0 0 0 (bU S).length _) ?_
   exact az (decide_eq_false (by omega)) ⟨rfl,rfl,rfl,rfl,rfl⟩
 ·subst h1 h2 h3
  have ht:(bC S).take (bU S).length=bC S:=List.take_of_length_le (by omega)
  have e1:sl (bU S).length=tS (pg S) ((bC S).map bf) (pg S).length:=by simp only [sl,ht,hlen]
  have e2:TT (bU S).length=yW lk lk2 es es2 ck ck2 ((bC S).map bf).length:=by simp only [TT,ht]
  rw [e1,e2]
  exact hK
theorem Hx {lk lk2:Value→Option TV}{es es2:List (Value × TV × Nat)}{ck ck2:Nat}{S:List aO}{st:List Nat}(h:SitesOk lk es ck S st)(h2:∀f g,VO.ren f g (.map kI lk2 es2 ck2)=.map kI lk2 es2 ck2):
  VCx prog ae 0 pd [.ptr 0 0] (sT lk lk2 es es2 ck ck2) λx T'=>x=.vec 3 ((bC S).map bf) .none∧T'=sT lk lk2 es es2 ck ck2:=by
 have hC:aT prog ae (aE [(uS,Hv (E7 lk lk2 es es2 ck ck2) (pg S))]):=aJ λp hp=>by
  obtain rfl:=mem_singleton.1 hp
  exact JN h
 refine VCx.keepQ 3 0 (le_refl _) (le_refl _) (an ah ag hC (Gx h) (JM lk lk2 es es2 ck ck2 (pg S) ((bC S).map bf) _) ?_)
 refine ⟨⟨rfl,rfl,rfl⟩,rfl,⟨rfl,rfl,rfl,⟨rfl,trivial⟩,rfl,rfl,rfl⟩,?_,?_⟩
 ·have hr:bT (ai 3) (ai 0) ((bC S).map bf)=(bC S).map bf:=by
   induction bC S with
   |nil=>rfl
   |cons a l ih=>simp only [map_cons,bT,ih];rfl
  simp only [TV.ren,hr,Tok.ren,ai]
  rfl
 ·have e1:=h.ren (ai 3) (ai 0)
  have e2:=h2 (ai 3) (ai 0)
  unfold kI at e1 e2
  simp only [VT.keep,List.take_succ_cons,List.take_zero,map_cons,List.map_nil,e1,e2,sT,kI]
  rfl
end
section
open Go.RowKit Go.Maps Go.Sort
theorem w8 (k:Value):(∃z,∀i,aj (aB i) k=(i==z))∨(∀i,aj (aB i) k=false):=by
 cases k
 case int q z=>exact .inl ⟨z,λi=>rfl⟩
 all_goals exact .inr λi=>rfl
def Hy (S:List aO)(st:List Nat):List (Value × TV × Nat):=zipWith (λs b=>(aB s.1,ix s,b)) S st
theorem yX (t:aO)(ck:Nat):∀{S:List aO} {st:List Nat},st.length=S.length→S.find? (λs=>s.1==t.1)=none→bt (aB t.1) (ix t) ck (Hy S st)=Hy (S++ [t]) (st++ [ck])
 |[],[],_,_=>rfl
 |[],_::_,h,_=>by simp at h
 |_::_,[],h,_=>by simp at h
 |s::S,b::st,h,hn=>by
  have hs:(s.1==t.1)=false:=by
   have:=find?_eq_none.1 hn s mem_cons_self
   simpa using this
  have hn2:S.find? (λs=>s.1==t.1)=none:=by rw [find?_cons,hs] at hn;exact hn
  have hs2:(t.1==s.1)=false:=by rw [beq_eq_false_iff_ne] at hs ⊢;exact λe=>hs e.symm
  have ih:=yX t ck (S:=S) (st:=st) (by simpa using h) hn2
  show (bif (t.1==s.1) then _ else _)=_
  rw [hs2,cond_false]
  exact congrArg (List.cons _) ih
theorem SitesOk.put {lk:Value→Option TV}{es:List (Value × TV × Nat)}{ck:Nat}{S:List aO}{st:List Nat}(h:SitesOk lk es ck S st)(t:aO)(hn:S.find? (λs=>s.1==t.1)=none)(hi:0≤t.1∧t.1<256)(hl:S.length<8):
  SitesOk (λk=>bif aj (aB t.1) k then some (ix t) else lk k) (bt (aB t.1) (ix t) ck es) (ck+1) (S++ [t]) (st++ [ck]) where
 look:=by
  funext k
  rw [h.look]
  simp only [List.find?_append]
  rcases w8 k with ⟨z,hz⟩ | hz
  ·simp only [hz]
   cases hc:t.1==z
   ·simp [hc]
   ·rw [beq_iff_eq] at hc
    rw [←hc,hn];simp
  ·simp [hz]
 ents:=by rw [h.ents];exact yX t ck h.slen hn
 slen:=by simp [h.slen]
 nd:=by
  rw [List.map_append]
  refine nodup_append.2 ⟨h.nd,by simp,λa ha b hb e=> ?_⟩
  obtain ⟨s,hs,rfl⟩:=mem_map.1 ha
  have hb':b=t.1:=by simpa using hb
  have:=find?_eq_none.1 hn s hs
  simp [e,hb'] at this
 ids:=λs hs=>by
  rcases mem_append.1 hs with hs | hs
  ·exact h.ids s hs
  ·rw [mem_singleton.1 hs];exact hi
 born:=λb hb=>by
  rcases mem_append.1 hb with hb | hb
  ·have:=h.born b hb;omega
  ·rw [mem_singleton.1 hb];omega
 borns:=nodup_append.2 ⟨h.borns,by simp,λa ha b hb e=>by
  have:=h.born a ha
  rw [mem_singleton.1 hb] at e
  omega⟩
 few:=by simp;omega
end
section
open Go.RowKit Go.Maps Go.Sort
structure MpOk {α:Type} (ky:α→Int) (tv:α→TV) (lk:Value→Option TV) (es:List (Value × TV × Nat)) (ck:Nat) (S:List α) (st:List Nat):Prop where
 look:lk=λk=>(S.find? λs=>aj (aB (ky s)) k).map tv
 ents:es=zipWith (λs b=>(aB (ky s),tv s,b)) S st
 slen:st.length=S.length
 nd:(S.map ky).Nodup
 ids:∀s∈S,0≤ky s∧ky s<256
 born:∀b∈st,b<ck
 borns:st.Nodup
section
variable {α:Type}{ky:α→Int}{tv:α→TV}{lk:Value→Option TV}{es:List (Value × TV × Nat)}{ck:Nat}{S:List α}{st:List Nat}
theorem uV:∀{S:List α} {st:List Nat},st.length=S.length→(zipWith (λs b=>(aB (ky s),tv s,b)) S st).map (·.1)=(S.map ky).map aB
 |[],[],_=>rfl
 |[],_::_,h=>by simp at h
 |_::_,[],h=>by simp at h
 |s::S,b::st,h=>by
  simp only [zipWith_cons_cons,map_cons]
  rw [uV (by simpa using h)]
theorem uW:∀{S:List α} {st:List Nat},st.length=S.length→(zipWith (λs b=>(aB (ky s),tv s,b)) S st).map (·.2.2)=st
 |[],[],_=>rfl
 |[],_::_,h=>by simp at h
 |_::_,[],h=>by simp at h
 |s::S,b::st,h=>by
  simp only [zipWith_cons_cons,map_cons]
  rw [uW (by simpa using h)]
theorem MpOk.keys (h:MpOk ky tv lk es ck S st):es.map (·.1)=(S.map ky).map aB:=by rw [h.ents,uV h.slen]
theorem MpOk.stamps (h:MpOk ky tv lk es ck S st):es.map (·.2.2)=st:=by rw [h.ents,uW h.slen]
theorem MpOk.len (h:MpOk ky tv lk es ck S st):es.length=S.length:=by
 have:=congrArg length h.keys
 simpa using this
theorem MpOk.at (h:MpOk ky tv lk es ck S st)(z:Int):lk (aB z)=(S.find? λs=>ky s==z).map tv:=by
 rw [h.look];rfl
theorem MpOk.ren (h:MpOk ky tv lk es ck S st)(ht:∀s f g,(tv s).ren f g=tv s)(f g:Nat→Option Nat)(sh:KS)(ck2:Nat):VO.ren f g (.map sh lk es ck2)=.map sh lk es ck2:=by
 have h1:(λk=>(lk k).map (TV.ren f g))=lk:=by
  funext k
  rw [h.look]
  simp only
  cases S.find? λs=>aj (aB (ky s)) k with
  |none=>rfl
  |some s=>simp only [map_some,ht]
 have h2:es.map (λe=>(e.1,e.2.1.ren f g,e.2.2))=es:=by
  rw [h.ents]
  have go:∀(S:List α) (st:List Nat),(zipWith (λs b=>(aB (ky s),tv s,b)) S st).map (λe=>(e.1,e.2.1.ren f g,e.2.2))=zipWith (λs b=>(aB (ky s),tv s,b)) S st:=by
   intro S
   induction S with
   |nil=>intro st;rfl
   |cons s S ih=>
    intro st
    cases st with
    |nil=>rfl
    |cons b st=>simp only [zipWith_cons_cons,map_cons,ih st,ht]
  exact go S st
 simp only [VO.ren,h1,h2]
theorem w9 (t:α)(ck:Nat):∀{S:List α} {st:List Nat},st.length=S.length→S.find? (λs=>ky s==ky t)=none→bt (aB (ky t)) (tv t) ck (zipWith (λs b=>(aB (ky s),tv s,b)) S st)=zipWith (λs b=>(aB (ky s),tv s,b)) (S++ [t]) (st++ [ck])
 |[],[],_,_=>rfl
 |[],_::_,h,_=>by simp at h
 |_::_,[],h,_=>by simp at h
 |s::S,b::st,h,hn=>by
  have hs:(ky s==ky t)=false:=by
   have:=find?_eq_none.1 hn s mem_cons_self
   simpa using this
  have hn2:S.find? (λs=>ky s==ky t)=none:=by rw [find?_cons,hs] at hn;exact hn
  have hs2:(ky t==ky s)=false:=by rw [beq_eq_false_iff_ne] at hs ⊢;exact λe=>hs e.symm
  have ih:=w9 t ck (S:=S) (st:=st) (by simpa using h) hn2
  show (bif (ky t==ky s) then _ else _)=_
  rw [hs2,cond_false]
  exact congrArg (List.cons _) ih
theorem MpOk.put (h:MpOk ky tv lk es ck S st)(t:α)(hn:S.find? (λs=>ky s==ky t)=none)(hi:0≤ky t∧ky t<256):
  MpOk ky tv (λk=>bif aj (aB (ky t)) k then some (tv t) else lk k) (bt (aB (ky t)) (tv t) ck es) (ck+1) (S++ [t]) (st++ [ck]) where
 look:=by
  funext k
  rw [h.look]
  simp only [List.find?_append]
  rcases w8 k with ⟨z,hz⟩ | hz
  ·simp only [hz]
   cases hc:ky t==z
   ·simp [hc]
   ·rw [beq_iff_eq] at hc
    rw [←hc,hn];simp
  ·simp [hz]
 ents:=by rw [h.ents];exact w9 t ck h.slen hn
 slen:=by simp [h.slen]
 nd:=by
  rw [List.map_append]
  refine nodup_append.2 ⟨h.nd,by simp,λa ha b hb e=> ?_⟩
  obtain ⟨s,hs,rfl⟩:=mem_map.1 ha
  have hb':b=ky t:=by simpa using hb
  have:=find?_eq_none.1 hn s hs
  simp [e,hb'] at this
 ids:=λs hs=>by
  rcases mem_append.1 hs with hs | hs
  ·exact h.ids s hs
  ·rw [mem_singleton.1 hs];exact hi
 born:=λb hb=>by
  rcases mem_append.1 hb with hb | hb
  ·have:=h.born b hb;omega
  ·rw [mem_singleton.1 hb];omega
 borns:=nodup_append.2 ⟨h.borns,by simp,λa ha b hb e=>by
  have:=h.born a ha
  rw [mem_singleton.1 hb] at e
  omega⟩
def gK (ky:α→Int)(t:α)(S:List α):List α:=S.map λs=>bif ky s==ky t then t else s
theorem pi (t:α)(S:List α):(gK ky t S).map ky=S.map ky:=by
 unfold gK
 rw [map_map]
 refine map_congr_left λs _=> ?_
 simp only [comp]
 cases h:ky s==ky t
 ·rfl
 ·rw [beq_iff_eq] at h;simp [h]
theorem uX (t:α)(p:Int→Bool):∀S:List α,(gK ky t S).find? (λs=>p (ky s))=(S.find? λs=>p (ky s)).map λs=>bif ky s==ky t then t else s
 |[]=>rfl
 |s::S=>by
  have ih:=uX t p S
  show List.find? _ ((bif ky s==ky t then t else s)::gK ky t S)=_
  rw [find?_cons,find?_cons]
  have e:ky (bif ky s==ky t then t else s)=ky s:=by
   cases h:ky s==ky t
   ·rfl
   ·rw [beq_iff_eq] at h;simp [h]
  rw [e]
  cases hp:p (ky s)
  ·exact ih
  ·rfl
theorem xa (t:α)(ck:Nat):∀{S:List α} {st:List Nat},st.length=S.length→(S.map ky).Nodup→(∃s,S.find? (λs=>ky s==ky t)=some s)→bt (aB (ky t)) (tv t) ck (zipWith (λs b=>(aB (ky s),tv s,b)) S st)=zipWith (λs b=>(aB (ky s),tv s,b)) (gK ky t S) st
 |[],_,_,_,hn=>by obtain ⟨s,hs⟩:=hn;simp at hs
 |_::_,[],h,_,_=>by simp at h
 |s::S,b::st,h,hd,hn=>by
  cases hs:ky s==ky t
  ·have hs2:(ky t==ky s)=false:=by rw [beq_eq_false_iff_ne] at hs ⊢;exact λe=>hs e.symm
   have hn2:∃s,S.find? (λs=>ky s==ky t)=some s:=by rw [find?_cons,hs] at hn;exact hn
   have ih:=xa t ck (S:=S) (st:=st) (by simpa using h) (nodup_cons.1 hd).2 hn2
   show (bif (ky t==ky s) then _ else _)=zipWith _ ((bif ky s==ky t then t else s)::gK ky t S) _
   rw [hs2,hs,cond_false]
   exact congrArg (List.cons _) ih
  ·have hk:ky s=ky t:=by simpa using hs
   have hs2:(ky t==ky s)=true:=by rw [hk];simp
   have e:gK ky t S=S:=by
    unfold gK
    refine (map_congr_left λu hu=> ?_).trans (map_id S)
    have:(ky u==ky t)=false:=by
     rw [beq_eq_false_iff_ne]
     intro e
     exact (nodup_cons.1 hd).1 (by show ky s∈_;rw [hk,←e];exact mem_map_of_mem hu)
    rw [this];rfl
   show (bif (ky t==ky s) then _ else _)=zipWith _ ((bif ky s==ky t then t else s)::gK ky t S) _
   rw [hs2,hs,cond_true,e,zipWith_cons_cons,cond_true,←hk]
theorem MpOk.set (h:MpOk ky tv lk es ck S st)(t:α)(hn:∃s,S.find? (λs=>ky s==ky t)=some s)(ck2:Nat)(hc:ck≤ck2):
  MpOk ky tv (λk=>bif aj (aB (ky t)) k then some (tv t) else lk k) (bt (aB (ky t)) (tv t) ck es) ck2 (gK ky t S) st where
 look:=by
  funext k
  rw [h.look]
  simp only
  rw [uX t (λz=>aj (aB z) k)]
  rcases w8 k with ⟨z,hz⟩ | hz
  ·simp only [hz]
   cases hc:ky t==z
   ·rw [cond_false]
    cases hf:S.find? λs=>ky s==z with
    |none=>rfl
    |some s=>
     have h1:ky s=z:=by simpa using find?_some hf
     have:(ky s==ky t)=false:=by
      rw [beq_eq_false_iff_ne] at hc ⊢
      exact λe=>hc (e.symm.trans h1)
     simp [this]
   ·rw [beq_iff_eq] at hc
    obtain ⟨s,hs⟩:=hn
    rw [←hc,hs]
    have h1:(ky s==ky t)=true:=find?_some (p:=λs=>ky s==ky t) hs
    simp [h1]
  ·have e:∀l:List α,l.find? (λ_=>false)=none:=λl=>by induction l<;>simp_all
   simp only [hz,cond_false,e];rfl
 ents:=by rw [h.ents];exact xa t ck h.slen h.nd hn
 slen:=by rw [h.slen];simp [gK]
 nd:=by rw [pi];exact h.nd
 ids:=λs hs=>by
  have:ky s∈(gK ky t S).map ky:=mem_map_of_mem hs
  rw [pi] at this
  obtain ⟨u,hu,he⟩:=mem_map.1 this
  rw [←he];exact h.ids u hu
 born:=λb hb=>by have:=h.born b hb;omega
 borns:=h.borns
end
end
section
open Go.RowKit
abbrev Bk:=Int × Int × Int
def aA (b:Bk):List TV:= [.val (.int .i64 b.1),.val (.int .u32 b.2.1),.val (.int .i64 b.2.2)]
def bs (s:Bk):List TV:= [.val (.int .i64 s.1),.val (.int .i64 s.2.1),.val (.int .u64 s.2.2)]
def JO (pr s d sp dp:Int):TV:=.agg [.val (.int .i64 pr),.val (.int .u32 s),.val (.int .u32 d),.val (.int .i64 sp),.val (.int .i64 dp)]
theorem jF (f h:Nat→Option Nat)(l:List Bk):bT f h (l.map aA)=l.map aA:=rU _ (λ_=>rfl) l
theorem lZ (f h:Nat→Option Nat)(l:List Bk):bT f h (l.map bs)=l.map bs:=rU _ (λ_=>rfl) l
end
section
open Go.RowKit Go.Maps Go.Sort
section
variable {α:Type}{ky:α→Int}
def cd (ky:α→Int)(S:List α):List Int:=(S.map ky).mergeSort leI
theorem xc (S:List α):(cd ky S).length=S.length:=by simp [cd,List.length_mergeSort]
theorem xd {S:List α}{z:Int}:z∈cd ky S ↔ z∈S.map ky:=(List.mergeSort_perm (S.map ky) leI).mem_iff
def gi (ky:α→Int)(S:List α)(z:Int):Option α:=S.find? λs=>ky s==z
theorem Gy {S:List α}{z:Int}(h:z∈cd ky S):∃s,gi ky S z=some s∧s∈S∧ky s=z:=by
 obtain ⟨s0,hs0,he⟩:=mem_map.1 (xd.1 h)
 cases hf:gi ky S z with
 |none=>
  have:=find?_eq_none.1 hf s0 hs0
  simp [he] at this
 |some s=>exact ⟨s,rfl,List.mem_of_find?_eq_some hf,by simpa using find?_some hf⟩
theorem pj:∀{S:List α} {s:α},(S.map ky).Nodup→s∈S→gi ky S (ky s)=some s
 |[],_,_,h=>by simp at h
 |t::S,s,hd,h=>by
  obtain ⟨h1,h2⟩:=nodup_cons.1 (show (ky t::S.map ky).Nodup from hd)
  unfold gi
  rw [find?_cons]
  rcases mem_cons.1 h with rfl | h
  ·simp
  ·have:(ky t==ky s)=false:=by
    rw [beq_eq_false_iff_ne]
    intro e
    exact h1 (by rw [e];exact mem_map_of_mem h)
   rw [this]
   exact pj h2 h
def jt (ky:α→Int)(p:α→Bool)(S:List α)(l:List Int):List α:=(l.filterMap (gi ky S)).filter p
theorem l0 {S:List α}(hd:(S.map ky).Nodup){p:α→Bool}{s:α}:s∈jt ky p S (cd ky S) ↔ s∈S∧p s=true:=by
 unfold jt
 rw [List.mem_filter,List.mem_filterMap]
 constructor
 ·rintro ⟨⟨z,_,hf⟩,hp⟩
  exact ⟨List.mem_of_find?_eq_some hf,hp⟩
 ·rintro ⟨hs,hp⟩
  exact ⟨⟨ky s,xd.2 (mem_map_of_mem hs),pj hd hs⟩,hp⟩
theorem AU {S:List α}{p:α→Bool}{l:List Int}{j:Nat}{z:Int}{s:α}(hz:l[j]?=some z)(hs:gi ky S z=some s):jt ky p S (l.take (j+1))=jt ky p S (l.take j)++bif p s then [s] else []:=by
 unfold jt
 rw [List.take_add_one,hz,List.filterMap_append,List.filter_append]
 congr 1
 simp only [Option.toList_some,List.filterMap_cons,List.filterMap_nil,hs]
 cases h:p s<;>simp [h]
theorem xe {S:List α}{p:α→Bool}{l:List Int}:(jt ky p S l).length≤l.length:=by
 unfold jt
 exact le_trans (List.length_filter_le _ _) (List.length_filterMap_le _ _)
end
abbrev Mb:=Bk × Bool × Bool
def bh (m:Mb):Int:=m.1.1
def aD (m:Mb):List TV:= [.val (.int .i64 m.1.1),.val (.int .u32 m.1.2.1),.val (.int .i64 m.1.2.2),.val (.bool m.2.1),.val (.bool m.2.2)]
def l4 (m:Mb):TV:=.agg (aD m)
def E9:Mb:=((0,0,0),false,false)
def dz (m:Mb):Bool:=m.2.1&& !m.2.2
def lb (m:Mb):Bool:=dz m&&decide (0<m.1.2.2)
def cF (S:List Mb):List Bk:=(jt bh lb S (cd bh S)).map (·.1)
structure JP (S:List Mb):Prop where
 few:S.length≤16
 nd:(S.map bh).Nodup
 wt:∀m∈S,0≤m.1.2.2∧m.1.2.2≤100
def bz (p:Mb→Bool):List Mb→Int
 |[]=>0
 |m::S=>(bif p m then m.1.2.2 else 0)+bz p S
theorem nH {p:Mb→Bool}:∀{S:List Mb},(∀m∈S,0≤m.1.2.2∧m.1.2.2≤100)→0≤bz p S∧bz p S≤100*S.length
 |[],_=>by simp [bz]
 |m::S,h=>by
  have h1:=nH (p:=p) (S:=S) λx hx=>h x (mem_cons_of_mem _ hx)
  have h2:=h m mem_cons_self
  unfold bz
  simp only [length_cons]
  cases p m<;>simp only [cond_true,cond_false]<;>omega
theorem B8 {p:Mb→Bool}{S S':List Mb}(h:S.Perm S'):bz p S=bz p S':=by
 induction h with
 |nil=>rfl
 |cons x _ ih=>simp only [bz,ih]
 |swap x y l=>simp only [bz];omega
 |trans _ _ h1 h2=>exact h1.trans h2
theorem ru {p:Mb→Bool}(m:Mb):∀S:List Mb,bz p (S++ [m])=bz p S+bif p m then m.1.2.2 else 0
 |[]=>by simp [bz]
 |x::S=>by
  show (_+bz p (S++ [m]))=_
  rw [ru m S];simp only [bz];omega
theorem xf {p:Mb→Bool}:∀{S:List Mb},0<bz p S→∃m∈S,p m=true∧0<m.1.2.2
 |[],h=>by simp [bz] at h
 |m::S,h=>by
  by_cases hm:p m=true∧0<m.1.2.2
  ·exact ⟨m,mem_cons_self,hm⟩
  ·have:0<bz p S:=by
    unfold bz at h
    cases hp:p m
    ·rw [hp] at h;simp only [cond_false] at h;omega
    ·rw [hp] at h
     simp only [cond_true] at h
     have:¬0<m.1.2.2:=λh2=>hm ⟨hp,h2⟩
     omega
   obtain ⟨x,hx,h2⟩:=xf this
   exact ⟨x,mem_cons_of_mem _ hx,h2⟩
def jX (n:Int)(S:List Mb):Bool:=decide (0<bz dz S)&&decide (n*bz (λ_=>true) S≤100*bz dz S)
theorem Hz {n:Int}{S:List Mb}(hd:(S.map bh).Nodup)(h:jX n S=true):∃b∈cF S,0<b.2.2:=by
 simp only [jX,and_eq_true,decide_eq_true_eq] at h
 obtain ⟨m,hm,h1,h2⟩:=xf h.1
 exact ⟨m.1,mem_map_of_mem ((l0 hd).2 ⟨hm,by simp [lb,h1,h2]⟩),h2⟩
theorem Ej {S:List Mb}(hd:(S.map bh).Nodup){b:Bk}:b∈cF S ↔ ∃m∈S,m.1=b∧lb m=true:=by
 unfold cF
 rw [mem_map]
 constructor
 ·rintro ⟨m,hm,rfl⟩
  exact ⟨m,((l0 hd).1 hm).1,rfl,((l0 hd).1 hm).2⟩
 ·rintro ⟨m,h1,rfl,h2⟩
  exact ⟨m,(l0 hd).2 ⟨h1,h2⟩,rfl⟩
end
section
open Go.RowKit
def ef (id:Nat):Code→Option Code
 | .region i ops d=>bif beq i id then some (.region i ops d) else none
 | .block _ c=>ef id c
 | .seq a b=>match ef id a with
  |some c=>some c
  |none=>ef id b
 | .cond _ a b=>match ef id a with
  |some c=>some c
  |none=>ef id b
 | .loop c=>ef id c
 | .scope c=>ef id c
 |_=>none
def dA (P:Program)(f:FuncId)(id:Nat):Code:=(ef id (B1 P f)).getD .skip
section
variable {P:Program}{G:aC}
def tT (i:Nat)(a:bH × Code)(j:Nat)(b:bH × Code):Nat→Option (bH × Code):=λk=>bif beq k i then some a else bif beq k j then some b else none
theorem yY {i j:Nat}{a b:bH × Code}(ha:∀rd ro σ T D K,a.1 rd ro σ T D K→VWx P G rd ro a.2 σ T D K)(hb:∀rd ro σ T D K,b.1 rd ro σ T D K→VWx P G rd ro b.2 σ T D K):dS P G (tT i a j b):=by
 intro k W c h
 unfold tT at h
 cases h1:beq k i
 ·rw [h1,cond_false] at h
  cases h2:beq k j
  ·rw [h2,cond_false] at h;cases h
  ·rw [h2,cond_true] at h
   cases h;exact hb
 ·rw [h1,cond_true] at h
  cases h;exact ha
end
end
section
open Go.RowKit
def xg (since:Nat)(seen:List Nat)(es:List (Value × TV × Nat)):Prop:=cg since seen es= []
def tU (k:Value)(v:TV)(s since:Nat)(seen:List Nat)(es:List (Value × TV × Nat)):Prop:=(k,v,s)∈cg since seen es++gB since seen es
def qJ (it a b:Nat):bH:=λ_ ro σ T D K=>match σ.getD it .dead with
 | .ptr i 0=>match T.objs[i]? with
  |some (.iter (.map m) since seen stepped)=>match T.objs[m]? with
   |some (.map _ _ es ck)=>(ble ro i=true∧fT seen stepped es=false∧ble (a+1) σ.length=true)∧
    (xg since seen es→K .normal ((σ.set a (.tup [.val (.bool false)])).set b (.val (.bool false))) T D)∧
    ∀(k:Value) (v:TV) (s:Nat),tU k v s since seen es→K .normal ((σ.set a (.tup [.val (.bool true),.val k,v])).set b (.val (.bool true))) (T.setIter i (.map m) since (seen++ [s]) ck) D
   |_=>False
  |_=>False
 |_=>False
def HA (it a b:Nat):Code→Bool
 | .region _ ops false=>match ops.toList with
  |[⟨some a1,.next (.tmp i1) false,_,_,_,none⟩,⟨some b1,.extract (.tmp a2) 0,_,_,_,none⟩]=>beq a1 a&&(beq i1 it&&(beq b1 b&&beq a2 a))
  |_=>false
 |_=>false
section
variable {P:Program}{G:aC}
theorem yZ {α:Type}{k:α→Prop}:∀{l:List α},(∀a∈l,k a)→wo k l
 |[],_=>trivial
 |[a],h=>h a mem_cons_self
 |a::b::l,h=>⟨h a mem_cons_self,yZ λc hc=>h c (mem_cons_of_mem _ hc)⟩
theorem B9:dM P G λ_ _ _ _ _=>False:=by
 intro ro f xs T K h
 exact h.elim
theorem Ek:eP P G λ_ _ _ _ _=>False:=by
 intro ro id xs T K h
 exact h.elim
theorem Gz {T:VT}{ro a:Nat}{ev:Operand→TV}{x:TV}{l:List TV}(h:ev (.tmp a)=.tup (x::l)):eM P ro T (.extract (.tmp a) 0) ev=some (x,T):=by
 unfold eM
 have e:aR P (.extract (.tmp a) 0) ev=some x:=by
  simp [aR,cM,h]
 rw [e]
theorem sJ {it a b:Nat}{c:Code}(hc:HA it a b c=true):∀rd ro σ T D K,qJ it a b rd ro σ T D K→VWx P G rd ro c σ T D K:=by
 intro rd ro σ T D K h
 unfold HA at hc
 split at hc
 ·rename_i id ops
  split at hc
  ·rename_i a1 i1 ty1 p1 af1 b1 a2 ty2 p2 af2 hops
   simp only [and_eq_true] at hc
   obtain ⟨c1,c2,c3,c4⟩:=hc
   obtain rfl:=eq_of_beq_eq_true c1
   obtain rfl:=eq_of_beq_eq_true c2
   obtain rfl:=eq_of_beq_eq_true c3
   obtain rfl:=eq_of_beq_eq_true c4
   refine sn (F:=bv) B9 Ek ?_
   rw [hops]
   unfold qJ at h
   split at h
   ·rename_i i hi
    split at h
    ·rename_i m since seen stepped hio
     split at h
     ·rename_i sh lk es ck hm
      obtain ⟨⟨h1,h2,h3⟩,hE,hK⟩:=h
      have hlt:=le_of_ble_eq_true h3
      have hx:oD T (.ptr i 0)=some (i,(bif (cg since seen es).isEmpty then [(.tup [.val (.bool false)],T)] else [])++
        ((cg since seen es)++(gB since seen es)).map λe=>(.tup [.val (.bool true),.val e.1,e.2.1],T.setIter i (.map m) since (seen++ [e.2.2]) ck)):=by
       simp only [oD,hio,hm,h2,cond_false]
      have go:∀(x:TV) (l:List TV) (T':VT),K .normal ((σ.set a2 (.tup (x::l))).set b1 x) T' D→oK P G bv (λ_ _ _ _ _=>False) (λ_ _ _ _ _=>False) ro ops [⟨some b1,.extract (.tmp a2) 0,ty2,p2,af2,none⟩] (aW σ (some a2) (.tup (x::l))) T' λσ T=>K .normal σ T D:=by
       intro x l T' hk
       have he:=Gz (P:=P) (T:=T') (ro:=ro) (a:=a2) (ev:=aF G (σ.set a2 (.tup (x::l)))) (x:=x) (l:=l) (by simp only [aF,List.getD_eq_getElem?_getD];rw [List.getElem?_set_self (by omega)];rfl)
       simp only [oK,dD,br,cond_true,fY,wy,bv,wx,aW,he]
       exact hk
      show dD ops _ σ _
      simp only [dD,br,cond_true,fY,wy,bv,wx,aF,hi,hx,h1]
      refine yZ λp hp=> ?_
      rcases mem_append.1 hp with hp | hp
      ·cases he:(cg since seen es).isEmpty with
       |false=>rw [he] at hp;cases hp
       |true=>
        rw [he] at hp
        obtain rfl:=mem_singleton.1 hp
        exact go _ _ _ (hE (List.isEmpty_iff.1 he))
      ·obtain ⟨⟨k,v,s⟩,hs,rfl⟩:=mem_map.1 hp
       exact go _ _ _ (hK k v s hs)
     ·exact h.elim
    ·exact h.elim
   ·exact h.elim
  ·cases hc
 ·cases hc
end
end
end Go.Proofs.YtgboehkdijjnkaaGreatDoor