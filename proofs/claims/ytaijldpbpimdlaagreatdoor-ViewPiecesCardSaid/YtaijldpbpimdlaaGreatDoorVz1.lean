/-Part 1 of the proof of viewPiecesCard_holds:Base,KeyA,Plan ... No condition. -/
import Derived.Test.YtaijldpbpimdlaaGreatDoorRows
import Derived.WalkKit
import Derived.WalkSpells
import Derived.WalkLawsBesides
import Derived.Deep.RegionHeld3
import Derived.BigQuiet
import Derived.Lib.Hide
import Derived.Laws.StructEq
import Derived.ChangeKeysEq
import Derived.MapKept
import Derived.OrdersHeld
import Derived.Tactics
import Derived.KernelRfl
import Derived.Deep.AppendSrc
import Derived.Laws.CopyRow
import Derived.Deep.Upon
import Derived.Deep.LoopGhost
import Derived.Scope
set_option maxRecDepth 100000
namespace Go.Proofs.YtaijldpbpimdlaaGreatDoor
open Go.RowKit
open _root_.Array (getElem?_toList toArray_toList toList_map)
open _root_.Bool (and_eq_true)
open Go.Builtin (append_ firstCells len_ max_ min_ zeroCells)
open Go.ByteArray (toList_eq)
open _root_.Function (comp_def)
open Go.Instr (checkKey fieldAt fill indexAt loadAt sliceAt storeAt sureAddr)
open Go.IntKind (i64 wrap)
open _root_.List (all_eq_true drop_drop flatten_append flatten_cons getElem?_append_left getElem?_append_right getElem?_drop getElem?_eq_getElem getElem?_eq_none getElem?_map getElem?_set getElem?_take length length_append length_cons length_map length_nil length_take map_cons mem_append mem_cons mem_cons_of_mem mem_cons_self mem_iff_getElem? mem_map mem_of_getElem? mem_of_mem_drop mem_of_mem_take range' take_succ_cons)
open _root_.Nat (add_assoc add_mul add_right_comm add_zero eq_zero_or_pos le_refl le_trans lt_of_lt_of_le lt_or_ge mul_le_mul_right sub_mul succ_mul zero_add zero_le)
open Go.Op (equal equalIn)
open Go.Oper (upon wp)
open _root_.Option (bind_eq_some_iff isSome_iff_exists map_eq_some_iff map_some)
open Go.Region (free noSelect ready wanted)
open Go.Result (andThen_ok)
open Go.Sem (run_bind run_pure)
open Go.World (cell? frozen? setCell setCells)
section
theorem Ej {k:IntKind}{a b:Int}(h:a=b):Ending.returned (.int k a)=.returned (.int k b):=by rw [h]
def Gr (w w':World):Prop:=Below w.heap.size w w'
theorem Gr.refl (w:World):Gr w w:=Below.refl _ _
theorem Gr.size {w w':World}(h:Gr w w'):w.heap.size≤w'.heap.size:=Below.size h
theorem Gr.trans {a b c:World}(h:Gr a b)(k:Gr b c):Gr a c:=Below.trans h (Below.mono k h.size)
theorem Gr.alloc {a w:World}(h:Gr a w)(o:Obj):Gr a (w.alloc o):=Below.alloc h h.size o
theorem Gr.drew {a w:World}(h:Gr a w):Gr a w.drew:=Below.drew h
theorem Gr.drewN {a w:World}(h:Gr a w)(n:Nat):Gr a (w.drewN n):=by
 unfold Gr at*
 exact ⟨h.os,h.tape,h.output,h.size,h.block⟩
theorem Gr.cells {W w1:World}(hb:Gr W w1):(∀b o,b<W.heap.size→w1.cell? ⟨b,o,none⟩=W.cell? ⟨b,o,none⟩)∧(∀b o,b<W.heap.size→w1.frozen? ⟨b,o,none⟩=W.frozen? ⟨b,o,none⟩):=
 ⟨λb o h=>Below.cell hb (p:=⟨b,o,none⟩) h,λb o h=>Below.frozen hb (p:=⟨b,o,none⟩) h⟩
theorem Gr.cell {W w1:World}(hb:Gr W w1){p:Addr}{v:Value}(h:W.cell? p=some v):w1.cell? p=some v:=by
 have hp:p.block<W.heap.size:=by
  unfold cell? at h
  rcases lt_or_ge p.block W.heap.size with h' | h'
  ·exact h'
  ·rw [Array.getElem?_eq_none h'] at h;cases h
 rw [Below.cell hb hp];exact h
theorem kQ {W:World}{p:Addr}{v:Value}(h:W.cell? p=some v):p.block<W.heap.size:=by
 unfold cell? at h
 rcases lt_or_ge p.block W.heap.size with h' | h'
 ·exact h'
 ·rw [Array.getElem?_eq_none h'] at h;cases h
theorem vJ (W:World)(xs:List Value)(t:TypeId)(i:Nat)(v:Value)(h:xs[i]?=some v):(W.alloc (.cells xs.toArray t)).cell? ⟨W.heap.size,i,none⟩=some v:=by
 rw [World.cell?_alloc_new];simpa using h
attribute [go_sem] Gr.refl Gr.alloc Gr.drew Gr.drewN
theorem Bo {W W':World}{p:Addr}{v:Value}(g:Gr W W')(h:∀w',Gr W w'→w'.cell? p=some v):∀w',Gr W' w'→w'.cell? p=some v:=λw' k=>h w' (g.trans k)
theorem Kv {W:World}{p:Addr}{v:Value}(h:W.cell? p=some v):∀w',Gr W w'→w'.cell? p=some v:=λ_ k=>k.cell h
theorem ui (W:World)(xs:List Value)(t:TypeId)(i:Nat)(v:Value)(h:xs[i]?=some v):∀w',Gr (W.alloc (.cells xs.toArray t)) w'→w'.cell? ⟨W.heap.size,i,none⟩=some v:=
 Kv (vJ W xs t i v h)
end
inductive CK where
 |int (k:IntKind)
 |bool
 |str
def CK.fit:CK→Value→Bool
 | .int k,.int k' _=>decide (k=k')
 | .bool,.bool _=>true
 | .str,.string _=>true
 |_,_=>false
def bk:List CK→List Value→Bool
 |[],[]=>true
 |k::ks,v::vs=>k.fit v&&bk ks vs
 |_,_=>false
def cl:Value→Value→Bool
 | .int _ a,.int _ b=>a==b
 | .bool a,.bool b=>a==b
 | .string a,.string b=>a==b
 |_,_=>false
def dH:List Value→List Value→Bool
 |[],[]=>true
 |x::xs,y::ys=>bif cl x y then dH xs ys else false
 |_,_=>false
structure KS where
 agg:Bool
 ks:List CK
def KS.cells (s:KS)(v:Value):Option (List Value):=match v with
 | .agg cs=>bif s.agg then some cs.toList else none
 |v=>bif s.agg then none else some [v]
def KS.fits (s:KS)(v:Value):Bool:=match s.cells v with
 |some cs=>bk s.ks cs
 |none=>false
def aq (a b:Value):Bool:=match a,b with
 | .agg xs,.agg ys=>dH xs.toList ys.toList
 |x,y=>cl x y
theorem dv:∀{ks:List CK} {vs:List Value},bk ks vs=true→vs.length=ks.length
 |[],[],_=>rfl
 |_::_,[],h=>by simp [bk] at h
 |[],_::_,h=>by simp [bk] at h
 |k::ks,v::vs,h=>by simp only [bk,and_eq_true] at h;simp [dv h.2]
theorem gO:∀{ks ls:List CK} {vs:List Value},bk (ks++ls) vs=true→bk ks (vs.take ks.length)=true∧bk ls (vs.drop ks.length)=true
 |[],ls,vs,h=>by simpa using ⟨by simp [bk],h⟩
 |k::ks,ls,[],h=>by simp [bk] at h
 |k::ks,ls,v::vs,h=>by
  simp only [List.cons_append,bk,and_eq_true] at h
  have:=gO h.2
  simp only [length_cons,take_succ_cons,List.drop_succ_cons,bk,and_eq_true]
  exact ⟨⟨h.1,this.1⟩,this.2⟩
theorem uX (k:Nat):∀{xs ys:List Value},k≤xs.length→xs.length=ys.length→dH xs ys=(bif dH (xs.take k) (ys.take k) then dH (xs.drop k) (ys.drop k) else false):=by
 induction k with
 |zero=>intro xs ys _ _;simp [dH]
 |succ k ih=>
  intro xs ys hk hl
  cases xs with
  |nil=>simp at hk
  |cons x xs=>cases ys with
   |nil=>simp at hl
   |cons y ys=>
    simp only [length_cons,Nat.add_le_add_iff_right,Nat.add_right_cancel_iff] at hk hl
    simp only [take_succ_cons,List.drop_succ_cons,dH]
    rw [ih hk hl]
    cases cl x y<;>simp
theorem HM {c:CK}{x y:Value}(hx:c.fit x=true)(hy:c.fit y=true):cl x y=true ↔ x=y:=by
 cases c<;>cases x<;>simp [CK.fit] at hx<;>cases y<;>simp [CK.fit] at hy
 ·simp_all [cl]
 ·simp_all [cl]
 ·rename_i a b
  simp only [cl,Value.string.injEq]
  rw [beq_toListBytes,toList_eq,toList_eq]
  obtain ⟨⟨a⟩⟩:=a
  obtain ⟨⟨b⟩⟩:=b
  simp
theorem zA:∀{ks:List CK} {xs ys:List Value},bk ks xs=true→bk ks ys=true→(dH xs ys=true ↔ xs=ys)
 |[],[],[],_,_=>by simp [dH]
 |[],_::_,_,h,_=>by simp [bk] at h
 |[],_,_::_,_,h=>by simp [bk] at h
 |_::_,[],_,h,_=>by simp [bk] at h
 |_::_,_,[],_,h=>by simp [bk] at h
 |k::ks,x::xs,y::ys,hx,hy=>by
  simp only [bk,and_eq_true] at hx hy
  have h1:=HM hx.1 hy.1
  have h2:=zA hx.2 hy.2
  simp only [dH,List.cons.injEq,←h1,←h2]
  cases cl x y<;>simp
theorem jP {s:KS}{a b:Value}{xs ys:List Value}(ha:s.cells a=some xs)(hb:s.cells b=some ys):aq a b=dH xs ys:=by
 unfold KS.cells at ha hb
 cases hs:s.agg<;>rw [hs] at ha hb
 ·cases a<;>simp at ha<;>subst ha<;>cases b<;>simp at hb<;>subst hb<;>simp only [aq,dH,cl]<;>simp
 ·cases a<;>simp at ha<;>subst ha<;>cases b<;>simp at hb<;>subst hb<;>simp only [aq]
theorem HN {s:KS}{a b:Value}{xs:List Value}(ha:s.cells a=some xs)(hb:s.cells b=some xs):a=b:=by
 unfold KS.cells at ha hb
 cases hs:s.agg<;>rw [hs] at ha hb
 ·cases a<;>simp at ha<;>subst ha<;>cases b<;>simp at hb<;>simp_all
 ·cases a<;>simp at ha<;>subst ha<;>cases b<;>simp at hb
  rename_i u v
  have:u=v:=by cases u;cases v;simp at hb;rw [hb]
  rw [this]
theorem ce {s:KS}{a b:Value}(ha:s.fits a=true)(hb:s.fits b=true):aq a b=true ↔ a=b:=by
 unfold KS.fits at ha hb
 split at ha
 ·rename_i xs hx
  split at hb
  ·rename_i ys hy
   rw [jP hx hy,zA ha hb]
   exact ⟨λh=>by subst h;exact HN hx hy,λh=>by subst h;rw [hx] at hy;injection hy⟩
  ·cases hb
 ·cases ha
def dj {α:Type}(k:Value):List (Value × α × Nat)→Option α
 |[]=>none
 |e::l=>bif aq k e.1 then some e.2.1 else dj k l
def cI {α:Type}(k:Value)(v:α)(born:Nat):List (Value × α × Nat)→List (Value × α × Nat)
 |[]=> [(k,v,born)]
 |e::l=>bif aq k e.1 then (k,v,e.2.2)::l else e::cI k v born l
def fB {α:Type}(k:Value):List (Value × α × Nat)→List (Value × α × Nat)
 |[]=> []
 |e::l=>bif aq k e.1 then l else e::fB k l
theorem Bp {α β:Type}(f:α→β)(k:Value):∀l:List (Value × α × Nat),dj k (l.map λe=>(e.1,f e.2.1,e.2.2))=(dj k l).map f
 |[]=>rfl
 |e::l=>by simp only [map_cons,dj];cases aq k e.1<;>simp [Bp f k l]
section
section
variable {P:Program}{ops:Array Oper}{S:World→Prop}
def iR (ops:Array Oper):List (Nat × Bool)→Array Bool→Bool
 |[],listed=>(ready .any ops listed).isEmpty
 | (i,true)::l,listed=>free .any ops listed i&&(ready .any ops listed).contains i&&iR ops l (listed.setIfInBounds i true)
 | (i,false)::l,listed=>(ready .any ops listed== [i])&&iR ops l (listed.setIfInBounds i true)
def HO (ops:Array Oper)(plan:List (Nat × Bool)):Bool:=
 noSelect ops&&plan.length==ops.size&&iR ops plan (Array.replicate ops.size false)
def nv (ops:Array Oper):List (Nat × Bool)→List (Oper × Bool)
 |[]=> []
 | (i,b)::l=>match ops[i]? with
  |some o=>(o,b)::nv ops l
  |none=>nv ops l
def Oper.takes (P:Program)(S:World→Prop)(o:Oper)(a:Act)(next:Act→Prop):Prop:=
 ∃v,(∀w,S w→(execOp a.eval o).run P w=.ok (.value v) w)∧next (a.put o.dst v)
def Oper.does (P:Program)(o:Oper)(a:Act)(w:World)(next:Act→World→Prop):Prop:=o.wp P a w next (λ_ _ _=>False)
def eC (P:Program)(ops:Array Oper)(S:World→Prop)(Q:Act→World→Prop):List (Oper × Bool)→Act→World→Prop
 |[],a,w=>Q a w
 | (o,t)::l,a,w=>
  if wanted o (yielded ops a.tmps) then
   match t with
   |true=>Oper.takes P S o a (λa'=>eC P ops S Q l a' w)
   |false=>Oper.does P o a w (λa' w'=>S w'∧eC P ops S Q l a' w')
  else eC P ops S Q l (a.put o.dst undef) w
def dX (Q:Act→World→Prop):Exit→Act→World→Prop
 | .normal,a,w=>Q a w
 |_,_,_=>False
theorem yz (hs:noSelect ops=true){Q:Act→World→Prop}:∀(plan:List (Nat × Bool)) (listed:Array Bool) (a:Act) (w:World),S w→
  iR ops plan listed=true→eC P ops S Q (nv ops plan) a w→(∀p∈plan,(ops[p.1]?).isSome=true)→
  wpAnyH P .any ops (dX Q) S plan.length listed a w:=by
 intro plan
 induction plan with
 |nil=>
  intro listed a w _ hp h _
  refine ⟨?_,h⟩
  simpa [iR] using hp
 |cons p l ih=>
  intro listed a w hS hp h hin
  obtain ⟨i,t⟩:=p
  obtain ⟨o,ho⟩:=isSome_iff_exists.1 (hin (i,t) (by simp))
  have hin':∀p∈l,(ops[p.1]?).isSome=true:=λp hp=>hin p (by simp [hp])
  simp only at ho
  simp only [nv,ho,eC] at h
  cases t with
  |true=>
   simp only [iR,and_eq_true] at hp
   obtain ⟨⟨hf,hr⟩,hp⟩:=hp
   by_cases hw:wanted o (yielded ops a.tmps)=true
   ·rw [if_pos hw] at h
    obtain ⟨v,hv,hn⟩:=h
    exact wpAnyH_take ho hs hf hr (λ_ _ _ h=>h) (Or.inl ⟨hw,hv⟩) hS (ih _ _ _ hS hp hn hin')
   ·rw [if_neg hw] at h
    exact wpAnyH_take (v:=undef) ho hs hf hr (λ_ _ _ h=>h) (Or.inr ⟨by simpa using hw,rfl⟩) hS (ih _ _ _ hS hp h hin')
  |false=>
   simp only [iR,and_eq_true,beq_iff_eq] at hp
   obtain ⟨hr,hp⟩:=hp
   refine wpAnyH_all hr (by simp) (λj hj=> ?_)
   obtain rfl:j=i:=by simpa using hj
   unfold wpOp
   simp only [ho]
   by_cases hw:wanted o (yielded ops a.tmps)=true
   ·rw [if_pos hw] at h ⊢
    left
    unfold Oper.does at h
    have hmono:∀(Q1 Q2:Exit→Act→World→Prop) (K:Act→World→Prop),(∀e a w,Q1 e a w→Q2 e a w)→o.wp P a w K Q1→o.wp P a w K Q2:=by
     intro Q1 Q2 K hq hh
     unfold wp at*
     generalize (execOp a.eval o).run P w=r at*
     cases r with
     |ok n w'=>
      cases n<;>simp only [upon] at hh ⊢
      case enter f args=>
       exact Calls.mono hh (λe w'' he=>by
        cases e with
        |returned v=>exact he
        |panicked c=>exact hq _ _ _ he
        |outgrown=>obtain ⟨a₀,w₀,h₀⟩:=he;exact ⟨a₀,w₀,hq _ _ _ h₀⟩)
      all_goals exact hh
     |halt x w'=>cases x<;>simp only [upon] at hh ⊢<;>exact hq _ _ _ hh
    exact hmono (λ_ _ _=>False) _ _ (λ_ _ _ h=>h.elim) (Oper.wp_mono (λa' w' h'=>⟨h'.1,ih _ _ _ h'.1 hp h'.2 hin'⟩) h)
   ·rw [if_neg hw] at h ⊢
    exact ⟨hS,ih _ _ _ hS hp h hin'⟩
theorem HP {plan:List (Nat × Bool)}:∀{listed:Array Bool},iR ops plan listed=true→∀p∈plan,(ops[p.1]?).isSome=true:=by
 induction plan with
 |nil=>intro _ _ p hp;cases hp
 |cons q l ih=>
  intro listed h p hp
  obtain ⟨i,t⟩:=q
  have hri:(ready .any ops listed).contains i=true∧iR ops l (listed.setIfInBounds i true)=true:=by
   cases t with
   |true=>simp only [iR,and_eq_true] at h;exact ⟨h.1.2,h.2⟩
   |false=>simp only [iR,and_eq_true,beq_iff_eq] at h;exact ⟨by rw [h.1];simp,h.2⟩
  rcases mem_cons.1 hp with rfl | hp
  ·obtain ⟨_,o,ho,_⟩:=mem_ready.1 (List.contains_iff_mem.1 hri.1)
   simp [ho]
  ·exact ih hri.2 p hp
theorem yA {id:Nat}{Q:Exit→Act→World→Prop}{a:Act}{w:World}(plan:List (Nat × Bool))(S:World→Prop)(hm:P.follows .mixedOrders=true)
  (hp:HO ops plan=true) (hS:S w.drew) (h:eC P ops S (λa w=>Q .normal a w) (nv ops plan) a w.drew):(Code.region id ops true).wp P Q a w:=by
 simp only [HO,and_eq_true,beq_iff_eq] at hp
 obtain ⟨⟨hs,hl⟩,hp⟩:=hp
 have h1:=yz (P:=P) hs plan _ a _ hS hp h (HP hp)
 rw [hl] at h1
 refine Code.wp_mono ?_ (wp_region_held hm h1)
 intro e a w hq
 cases e<;>first | exact hq | exact hq.elim
theorem FE {Q:Act→World→Prop}{a:Act}{w:World}(h:Q a w):eC P ops S Q [] a w:=h
theorem DX {Q:Act→World→Prop}{a:Act}{w:World}{o:Oper}{t:Bool}{l:List (Oper × Bool)}(hw:wanted o (yielded ops a.tmps)=false)
  (h:eC P ops S Q l (a.put o.dst undef) w):eC P ops S Q ((o,t)::l) a w:=by
 unfold eC;rw [if_neg (by rw [hw];exact Bool.false_ne_true)];exact h
theorem DY {Q:Act→World→Prop}{a:Act}{w:World}{o:Oper}{l:List (Oper × Bool)}(hw:wanted o (yielded ops a.tmps)=true)
  (h:∃v,(∀w,S w→(execOp a.eval o).run P w=.ok (.value v) w)∧eC P ops S Q l (a.put o.dst v) w):eC P ops S Q ((o,true)::l) a w:=by
 unfold eC;rw [if_pos hw];exact h
theorem zB {Q:Act→World→Prop}{a:Act}{w:World}{o:Oper}{l:List (Oper × Bool)}(hw:wanted o (yielded ops a.tmps)=true)
  (h:∀K:Act→World→Prop,(∀a' w',S w'→(S w'→eC P ops S Q l a' w')→K a' w')→o.wp P a w K (λ_ _ _=>False)):eC P ops S Q ((o,false)::l) a w:=by
 unfold eC;rw [if_pos hw];exact h _ (λ_ _ h1 h2=>⟨h1,h2 h1⟩)
def dT (ops:Array Oper):Bool:=
 (List.range ops.size).all λi=>match ops[i]? with
  |some o=>(o.after.all λe=> !Region.binds .any e || decide (e.on<i))&&(match o.guard with | some (g,_)=>decide (g<ops.size) | none=>true)
  |none=>true
theorem fj (h:dT ops=true){i:Nat}{o:Oper}(ho:ops[i]?=some o):
  (∀e∈o.after,Region.binds .any e=true→e.on<i)∧(∀g b,o.guard=some (g,b)→g<ops.size):=by
 have hi:i<ops.size:=(Array.getElem?_eq_some_iff.1 ho).1
 have h1:=all_eq_true.1 h i (List.mem_range.2 hi)
 simp only [ho,and_eq_true] at h1
 refine ⟨λe he hb=> ?_,λg b hg=> ?_⟩
 ·have:=Array.all_eq_true_iff_forall_mem.1 h1.1 e he
  simpa [hb] using this
 ·have h2:=h1.2
  rw [hg] at h2
  simpa using h2
theorem qM (h:dT ops=true){listed:Array Bool}(hsz:listed.size=ops.size)(hr:ready .any ops listed= []):
  ∀i,i<ops.size→listed.getD i false=true:=by
 intro i
 induction i using Nat.strongRecOn with
 |_ i ih=>
  intro hi
  cases hl:listed.getD i false with
  |true=>rfl
  |false=>
   exfalso
   have ho:ops[i]?=some ops[i]:=by simp [hi]
   have hs:=fj h ho
   have hmem:i∈ready .any ops listed:=mem_ready.2 ⟨by
     have hi':i<listed.size:=by omega
     simp [hi'] at hl ⊢;exact hl,_,ho,λe he hb=>ih e.on (hs.1 e he hb) (by have:=hs.1 e he hb;omega)⟩
   rw [hr] at hmem
   cases hmem
theorem Bq (t:Oper){g:Nat}(hg:g<ops.size)(tmps:Array Value):yielded (ops.push t) tmps g=yielded ops tmps g:=by
 unfold yielded
 rw [Array.getElem?_push,if_neg (by omega)]
theorem DZ (h:dT ops=true)(t:Oper){i:Nat}{o:Oper}(ho:ops[i]?=some o)(tmps:Array Value):
  wanted o (yielded (ops.push t) tmps)=wanted o (yielded ops tmps):=by
 unfold wanted
 cases hg:o.guard with
 |none=>rfl
 |some gb=>
  obtain ⟨g,b⟩:=gb
  simp only
  rw [Bq t ((fj h ho).2 g b hg)]
theorem fC {listed:Array Bool}{i:Nat}(b d:Bool)(h:i<listed.size):(listed.push b).getD i d=listed.getD i d:=by
 simp [Array.getD,h,Nat.lt_succ_of_lt h,Array.getElem_push_lt h]
theorem Kw {listed:Array Bool}{i:Nat}(h:i<listed.size):(listed.push false).setIfInBounds i true=(listed.setIfInBounds i true).push false:=by
 obtain ⟨l⟩:=listed
 simp only [List.size_toArray] at h
 simp [h]
end
attribute [irreducible] eC
end
inductive Tok where
 |none
 |full
 |live
 |tail (k e:Nat)
 |past (id off:Nat)
 |arg (m:Nat)
inductive TV where
 |val (v:Value)
 |ptr (id off:Nat)
 |vec (size:Nat) (es:List (List TV)) (tok:Tok)
 |elt (cs:List TV)
 |sl (id off n cap:Nat)
 |row (size id off n:Nat)
 |agg (cs:List TV)
 |tup (cs:List TV)
 |fn (f:Fn) (first caps:List TV)
 |ifc (t:TypeId) (v:TV)
 |map (id:Nat)
 |yld (id:Nat)
 |dead
structure Tl where
 b:Nat
 f:Nat
 lim:Nat
 size:Nat
 e:Nat
 ty:TypeId
 lo:Nat
 own:Bool
 born:Bool
structure Gh where
 obj:Nat→Option Nat
 st:Nat→Nat→Prop
 fr:Nat→Prop
 tail:Nat→Option Tl
def bI (w:World)(b:Nat):Nat:=match w.heap[b]? with
 |some (.cells us _ _)=>us.size
 |_=>0
def TokOk (g:Gh)(w:World)(tok:Tok)(size n b o c:Nat):Prop:=match tok with
 | .none=>True
 | .live=>True
 | .full=>c=n
 | .tail k e=>∃x,g.tail k=some x∧e≤x.e∧x.size=size∧(x.e=e→n<c→x.b=b∧x.f=o+n*size∧x.lim=o+c*size)∧(x.e=e→x.born=true→n≤x.e∧(n=x.e→0<n→x.own=true∧x.b=b∧o=0∧x.lim=c*size))
 | .past id off=>n<c→g.obj id=some b∧b<w.heap.size∧o+n*size=off*size∧o+c*size=bI w b
 | .arg m=>n=0∨(b<m∧m≤w.heap.size)
def NilTok (g:Gh)(tok:Tok)(size:Nat):Prop:=match tok with
 | .none=>True
 | .live=>False
 | .full=>False
 | .tail k e=>∃x,g.tail k=some x∧e≤x.e∧x.size=size
 | .past .. =>False
 | .arg _=>True
inductive VR (g:Gh) (w:World):TV→Value→Prop
 |val (v:Value):VR g w (.val v) v
 |dead (v:Value):VR g w .dead v
 |ptr {id off b:Nat} (h:g.obj id=some b):VR g w (.ptr id off) (.pointer (some ⟨b,off,none⟩))
 |sl {id off n cap b:Nat} (h:g.obj id=some b):VR g w (.sl id off n cap) (.slice (some ⟨b,off,none⟩) n cap)
 |row {size id off n b c:Nat} (h:g.obj id=some b) (hb:b<w.heap.size) (hn:n≤c) (hm:c≤maxLen) (hc:(off+c)*size=bI w b):VR g w (.row size id off n) (.slice (some ⟨b,off*size,none⟩) n c)
 |map {id b:Nat} (h:g.obj id=some b):VR g w (.map id) (.map (some b))
 |yld {id b:Nat} (h:g.obj id=some b):VR g w (.yld id) (.func (.yield b) #[] #[])
 |nil {size:Nat} {tok:Tok} (h:NilTok g tok size):VR g w (.vec size [] tok) (.slice none 0 0)
 |vec {size:Nat} {es:List (List TV)} {tok:Tok} {b o c:Nat} {us:List Value} (hn:es.length≤c) (hc:c≤maxLen) (hz:∀e∈es,e.length=size) (ht:TokOk g w tok size es.length b o c) (hl:us.length=es.flatten.length) (h1:∀u∈us,u.oneCell'=true)
  (hs:∀j,j<es.flatten.length→g.st b (o+j)) (hw:∀(j:Nat) u,us[j]?=some u→w.cell? ⟨b,o+j,none⟩=some u)
  (hv:∀(j:Nat) x u,es.flatten[j]?=some x→us[j]?=some u→VR g w x u):VR g w (.vec size es tok) (.slice (some ⟨b,o,none⟩) es.length c)
 |odd {size:Nat} {tok:Tok} (a:Addr) (h:TokOk g w tok size 0 0 0 0):VR g w (.vec size [] tok) (.slice (some a) 0 0)
 |elt {cs:List TV} {b o:Nat} {us:List Value} (hl:us.length=cs.length) (h1:∀u∈us,u.oneCell'=true)
  (hs:∀j,j<cs.length→g.st b (o+j)) (hw:∀(j:Nat) u,us[j]?=some u→w.cell? ⟨b,o+j,none⟩=some u)
  (hv:∀(j:Nat) x u,cs[j]?=some x→us[j]?=some u→VR g w x u):VR g w (.elt cs) (.pointer (some ⟨b,o,none⟩))
 |agg {cs:List TV} {us:List Value} (hl:us.length=cs.length) (hv:∀(j:Nat) x u,cs[j]?=some x→us[j]?=some u→VR g w x u):VR g w (.agg cs) (.agg us.toArray)
 |tup {cs:List TV} {us:List Value} (hl:us.length=cs.length) (hv:∀(j:Nat) x u,cs[j]?=some x→us[j]?=some u→VR g w x u):VR g w (.tup cs) (.tuple us.toArray)
 |fn {f:Fn} {cs ds:List TV} {us vs:List Value} (hl:us.length=cs.length) (hv:∀(j:Nat) x u,cs[j]?=some x→us[j]?=some u→VR g w x u)
  (hl2:vs.length=ds.length) (hv2:∀(j:Nat) x u,ds[j]?=some x→vs[j]?=some u→VR g w x u):VR g w (.fn f cs ds) (.func f us.toArray vs.toArray)
 |ifc {t:TypeId} {x:TV} {u:Value} (h:VR g w x u):VR g w (.ifc t x) (.iface t u)
def VRs (g:Gh)(w:World)(cs:List TV)(us:List Value):Prop:=us.length=cs.length∧∀(j:Nat) x u,cs[j]?=some x→us[j]?=some u→VR g w x u
structure Evo (g:Gh) (w:World) (g':Gh) (w':World):Prop where
 os:w'.os=w.os
 tape:w'.tape=w.tape
 output:w'.output=w.output
 size:w.heap.size≤w'.heap.size
 obj:∀id b,g.obj id=some b→g'.obj id=some b
 st:∀b o,g.st b o→g'.st b o∧w'.cell? ⟨b,o,none⟩=w.cell? ⟨b,o,none⟩
 fr:g'.fr=g.fr
 frb:∀b,g.fr b→w'.heap[b]?=w.heap[b]?
 frs:∀b o,g.fr b→g'.st b o→g.st b o
 tail:∀k x,g.tail k=some x→∃x',g'.tail k=some x'∧(x'=x∨x.e<x'.e)∧x'.size=x.size∧x'.lo=x.lo
 tnew:∀k x,g.tail k=none→g'.tail k=some x→w.heap.size≤x.lo
 csz:∀b,b<w.heap.size→bI w' b=bI w b
theorem Evo.refl (g:Gh)(w:World):Evo g w g w:=
 ⟨rfl,rfl,rfl,le_refl _,λ_ _ h=>h,λ_ _ h=>⟨h,rfl⟩,rfl,λ_ _=>rfl,λ_ _ _ h=>h,λ_ x h=>⟨x,h,.inl rfl,rfl,rfl⟩,(λ_ _ h h'=>nomatch (h.symm.trans h')),λ_ _=>rfl⟩
theorem Evo.trans {g g' g'' :Gh}{w w' w'' :World}(h:Evo g w g' w')(k:Evo g' w' g'' w''):Evo g w g'' w'' where
 csz:=λb hb=>(k.csz b (lt_of_lt_of_le hb h.size)).trans (h.csz b hb)
 os:=k.os.trans h.os
 tape:=k.tape.trans h.tape
 output:=k.output.trans h.output
 size:=le_trans h.size k.size
 obj:=λid b hb=>k.obj id b (h.obj id b hb)
 st:=λb o hs=>⟨(k.st b o (h.st b o hs).1).1,(k.st b o (h.st b o hs).1).2.trans (h.st b o hs).2⟩
 fr:=k.fr.trans h.fr
 frb:=λb hb=>(k.frb b (h.fr▸hb)).trans (h.frb b hb)
 frs:=λb o hb hs=>h.frs b o hb (k.frs b o (h.fr▸hb) hs)
 tail:=λj x hx=>by
  obtain ⟨x',h1,h2,hs1,hl1⟩:=h.tail j x hx
  obtain ⟨x'',h3,h4,hs2,hl2⟩:=k.tail j x' h1
  refine ⟨x'',h3,?_,hs2.trans hs1,hl2.trans hl1⟩
  rcases h2 with rfl | h2
  ·exact h4
  ·rcases h4 with rfl | h4
   ·exact .inr h2
   ·exact .inr (by omega)
 tnew:=λj x hn hx=>by
  cases hg:g'.tail j with
  |none=>exact le_trans h.size (k.tnew j x hg hx)
  |some x'=>
   have h1:=h.tnew j x' hn hg
   obtain ⟨x'',h3,_,_,hl⟩:=k.tail j x' hg
   rw [hx] at h3;injection h3 with h3;subst h3
   rw [hl];exact h1
theorem TokOk.mono {g g':Gh}{w w':World}(h:Evo g w g' w'){tok:Tok}{size n b o c:Nat}(k:TokOk g w tok size n b o c):TokOk g' w' tok size n b o c:=by
 cases tok with
 |none=>trivial
 |live=>trivial
 |full=>exact k
 |tail j e=>
  obtain ⟨x,hx,he,hz,hh,ho⟩:=k
  obtain ⟨x',hx',hc,hsz,_⟩:=h.tail j x hx
  refine ⟨x',hx',?_,hsz.trans hz,?_,?_⟩
  ·rcases hc with rfl | hc
   ·exact he
   ·omega
  ·rcases hc with rfl | hc
   ·exact hh
   ·intro e1;omega
  ·rcases hc with rfl | hc
   ·exact ho
   ·intro e1;omega
 |past id off=>exact λhlt=>⟨h.obj _ _ (k hlt).1,lt_of_lt_of_le (k hlt).2.1 h.size,(k hlt).2.2.1,(k hlt).2.2.2.trans (h.csz _ (k hlt).2.1).symm⟩
 |arg m=>exact k.imp id λhf=>⟨hf.1,le_trans hf.2 h.size⟩
theorem NilTok.mono {g g':Gh}{w w':World}(h:Evo g w g' w'){tok:Tok}{size:Nat}(k:NilTok g tok size):NilTok g' tok size:=by
 cases tok with
 |none=>trivial
 |live=>trivial
 |full=>trivial
 |tail j e=>
  obtain ⟨x,hx,he,hz⟩:=k
  obtain ⟨x',hx',hc,hsz,_⟩:=h.tail j x hx
  refine ⟨x',hx',?_,hsz.trans hz⟩
  rcases hc with rfl | hc
  ·exact he
  ·omega
 |past id off=>exact k.elim
 |arg m=>trivial
theorem VR.mono {g g':Gh}{w w':World}(h:Evo g w g' w'){x:TV}{u:Value}(k:VR g w x u):VR g' w' x u:=by
 induction k with
 |val v=>exact .val v
 |dead v=>exact .dead v
 |ptr hb=>exact .ptr (h.obj _ _ hb)
 |sl hb=>exact .sl (h.obj _ _ hb)
 |map hb=>exact .map (h.obj _ _ hb)
 |yld hb=>exact .yld (h.obj _ _ hb)
 |row hb hl hn hm hc=>exact .row (h.obj _ _ hb) (lt_of_lt_of_le hl h.size) hn hm (hc.trans (h.csz _ hl).symm)
 |nil hk=>exact .nil (hk.mono h)
 |odd a hk=>exact .odd a (hk.mono h)
 |vec hn hc hz ht hl h1 hs hw _ ih=>exact .vec hn hc hz (ht.mono h) hl h1 (λj hj=>(h.st _ _ (hs j hj)).1) (λj u hu=>by
  rw [(h.st _ _ (hs j (by rw [←hl];exact (List.getElem?_eq_some_iff.1 hu).1))).2];exact hw j u hu) ih
 |elt hl h1 hs hw _ ih=>exact .elt hl h1 (λj hj=>(h.st _ _ (hs j hj)).1) (λj u hu=>by
  rw [(h.st _ _ (hs j (by rw [←hl];exact (List.getElem?_eq_some_iff.1 hu).1))).2];exact hw j u hu) ih
 |agg hl _ ih=>exact .agg hl ih
 |tup hl _ ih=>exact .tup hl ih
 |fn hl _ hl2 _ ih ih2=>exact .fn hl ih hl2 ih2
 |ifc _ ih=>exact .ifc ih
theorem VRs.mono {g g':Gh}{w w':World}(h:Evo g w g' w'){xs:List TV}{us:List Value}(k:VRs g w xs us):VRs g' w' xs us:=⟨k.1,λj x u hx hu=>(k.2 j x u hx hu).mono h⟩
theorem VRs.nil (g:Gh)(w:World):VRs g w [] []:=⟨rfl,λj x u h=>by simp at h⟩
theorem VRs.cons {g:Gh}{w:World}{x:TV}{u:Value}{xs:List TV}{us:List Value}(h:VR g w x u)(k:VRs g w xs us):VRs g w (x::xs) (u::us):=
 ⟨by simp [k.1],λj y v hy hv=>by
  cases j with
  |zero=>simp at hy hv;subst hy hv;exact h
  |succ j=>simp at hy hv;exact k.2 j y v hy hv⟩
theorem VRs.app {g:Gh}{w:World}{xs ys:List TV}{us vs:List Value}(h:VRs g w xs us)(k:VRs g w ys vs):VRs g w (xs++ys) (us++vs):=by
 refine ⟨by simp [h.1,k.1],λj x u hx hu=> ?_⟩
 rcases lt_or_ge j xs.length with hj | hj
 ·rw [getElem?_append_left hj] at hx
  rw [getElem?_append_left (by rw [h.1];exact hj)] at hu
  exact h.2 j x u hx hu
 ·rw [getElem?_append_right hj] at hx
  rw [getElem?_append_right (by rw [h.1];exact hj),h.1] at hu
  exact k.2 _ x u hx hu
theorem VRs.take {g:Gh}{w:World}{xs:List TV}{us:List Value}(h:VRs g w xs us)(n:Nat):VRs g w (xs.take n) (us.take n):=by
 refine ⟨by simp [h.1],λj x u hx hu=> ?_⟩
 rw [getElem?_take] at hx hu
 split at hx
 ·rename_i hj;rw [if_pos hj] at hu;exact h.2 j x u hx hu
 ·cases hx
theorem VRs.drop {g:Gh}{w:World}{xs:List TV}{us:List Value}(h:VRs g w xs us)(n:Nat):VRs g w (xs.drop n) (us.drop n):=by
 refine ⟨by simp [h.1],λj x u hx hu=> ?_⟩
 rw [getElem?_drop] at hx hu
 exact h.2 _ x u hx hu
theorem VRs.set {g:Gh}{w:World}{xs:List TV}{us:List Value}(h:VRs g w xs us)(i:Nat){x:TV}{u:Value}(k:VR g w x u):VRs g w (xs.set i x) (us.set i u):=by
 refine ⟨by simp [h.1],λj y v hy hv=> ?_⟩
 rw [getElem?_set] at hy hv
 split at hy
 ·rename_i hj
  subst hj
  rw [if_pos rfl] at hv
  split at hy
  ·split at hv
   ·injection hy with hy;injection hv with hv;subst hy hv;exact k
   ·cases hv
  ·cases hy
 ·rename_i hj;rw [if_neg hj] at hv;exact h.2 j y v hy hv
theorem VRs.vals (g:Gh)(w:World)(us:List Value):VRs g w (us.map .val) us:=⟨by simp,λj x u hx hu=>by
 rw [getElem?_map,hu] at hx
 simp at hx;subst hx;exact .val u⟩
theorem VRs.at {g:Gh}{w:World}{xs:List TV}{us:List Value}(h:VRs g w xs us){j:Nat}{x:TV}(hx:xs[j]?=some x):∃u,us[j]?=some u∧VR g w x u:=by
 have hj:=(List.getElem?_eq_some_iff.1 hx).1
 have:us[j]?=some (us[j]'(by rw [h.1];exact hj)):=getElem?_eq_getElem _
 exact ⟨_,this,h.2 j x _ hx this⟩
theorem VR.val_inv {g:Gh}{w:World}{v u:Value}(h:VR g w (.val v) u):u=v:=by cases h;rfl
theorem VR.ptr_inv {g:Gh}{w:World}{id off:Nat}{u:Value}(h:VR g w (.ptr id off) u):∃b,g.obj id=some b∧u=.pointer (some ⟨b,off,none⟩):=by cases h with | ptr h=>exact ⟨_,h,rfl⟩
theorem VR.agg_inv {g:Gh}{w:World}{cs:List TV}{u:Value}(h:VR g w (.agg cs) u):∃us,u=.agg us.toArray∧VRs g w cs us:=by cases h with | agg hl hv=>exact ⟨_,rfl,hl,hv⟩
theorem VR.tup_inv {g:Gh}{w:World}{cs:List TV}{u:Value}(h:VR g w (.tup cs) u):∃us,u=.tuple us.toArray∧VRs g w cs us:=by cases h with | tup hl hv=>exact ⟨_,rfl,hl,hv⟩
theorem VR.elt_inv {g:Gh}{w:World}{cs:List TV}{u:Value}(h:VR g w (.elt cs) u):∃b o us,u=.pointer (some ⟨b,o,none⟩)∧VRs g w cs us∧(∀j,j<cs.length→g.st b (o+j))∧(∀(j:Nat) v,us[j]?=some v→w.cell? ⟨b,o+j,none⟩=some v)∧∀u∈us,u.oneCell'=true:=by
 cases h with | elt hl h1 hs hw hv=>exact ⟨_,_,_,rfl,⟨hl,hv⟩,hs,hw,h1⟩
theorem VR.sl_inv {g:Gh}{w:World}{id off n cap:Nat}{u:Value}(h:VR g w (.sl id off n cap) u):∃b,g.obj id=some b∧u=.slice (some ⟨b,off,none⟩) n cap:=by cases h with | sl h=>exact ⟨_,h,rfl⟩
theorem VR.row_inv {g:Gh}{w:World}{size id off n:Nat}{u:Value}(h:VR g w (.row size id off n) u):∃b c,g.obj id=some b∧b<w.heap.size∧n≤c∧c≤maxLen∧(off+c)*size=bI w b∧u=.slice (some ⟨b,off*size,none⟩) n c:=by cases h with | row h1 h2 h3 h4 h5=>exact ⟨_,_,h1,h2,h3,h4,h5,rfl⟩
theorem VR.yld_inv {g:Gh}{w:World}{id:Nat}{u:Value}(h:VR g w (.yld id) u):∃b,g.obj id=some b∧u=.func (.yield b) #[] #[]:=by cases h with | yld h=>exact ⟨_,h,rfl⟩
theorem VR.map_inv {g:Gh}{w:World}{id:Nat}{u:Value}(h:VR g w (.map id) u):∃b,g.obj id=some b∧u=.map (some b):=by cases h with | map h=>exact ⟨_,h,rfl⟩
theorem VR.fn_inv {g:Gh}{w:World}{f:Fn}{cs ds:List TV}{u:Value}(h:VR g w (.fn f cs ds) u):∃us vs,u=.func f us.toArray vs.toArray∧VRs g w cs us∧VRs g w ds vs:=by
 cases h with | fn hl hv hl2 hv2=>exact ⟨_,_,rfl,⟨hl,hv⟩,⟨hl2,hv2⟩⟩
theorem VR.ifc_inv {g:Gh}{w:World}{t:TypeId}{x:TV}{u:Value}(h:VR g w (.ifc t x) u):∃v,u=.iface t v∧VR g w x v:=by cases h with | ifc h=>exact ⟨_,rfl,h⟩
theorem VR.vec_inv {g:Gh}{w:World}{size:Nat}{es:List (List TV)}{tok:Tok}{u:Value}(h:VR g w (.vec size es tok) u):
  (u=.slice none 0 0∧es= []∧NilTok g tok size)∨(∃b o c us,u=.slice (some ⟨b,o,none⟩) es.length c∧es.length≤c∧c≤maxLen∧(∀e∈es,e.length=size)∧TokOk g w tok size es.length b o c∧VRs g w es.flatten us∧(∀j,j<es.flatten.length→g.st b (o+j))∧(∀(j:Nat) v,us[j]?=some v→w.cell? ⟨b,o+j,none⟩=some v)∧∀u∈us,u.oneCell'=true)∨∃a,u=.slice (some a) 0 0∧es= []∧TokOk g w tok size 0 0 0 0:=by
 cases h with
 |nil h=>exact .inl ⟨rfl,rfl,h⟩
 |odd a h=>exact .inr (.inr ⟨a,rfl,rfl,h⟩)
 |vec hn hc hz ht hl h1 hs hw hv=>exact .inr (.inl ⟨_,_,_,_,rfl,hn,hc,hz,ht,⟨hl,hv⟩,hs,hw,h1⟩)
theorem VR.mk_vec {g:Gh}{w:World}{size n:Nat}{es:List (List TV)}{tok:Tok}{b o c:Nat}{us:List Value}(hn:n=es.length)(hc:n≤c)(hm:c≤maxLen)(hz:∀e∈es,e.length=size)(ht:TokOk g w tok size n b o c)(hv:VRs g w es.flatten us)
  (hs:∀j,j<es.flatten.length→g.st b (o+j)) (hw:∀(j:Nat) u,us[j]?=some u→w.cell? ⟨b,o+j,none⟩=some u) (h1:∀u∈us,u.oneCell'=true):VR g w (.vec size es tok) (.slice (some ⟨b,o,none⟩) n c):=by
 subst hn;exact .vec hc hm hz ht hv.1 h1 hs hw hv.2
theorem cf {size:Nat}:∀{es:List (List TV)},(∀e∈es,e.length=size)→es.flatten.length=es.length*size
 |[],_=>by simp
 |e::es,h=>by
  have h1:=cf (es:=es) (λe he=>h e (mem_cons_of_mem _ he))
  have h2:=h e mem_cons_self
  simp only [flatten_cons,length_append,h1,h2,length_cons,succ_mul];omega
theorem iS {size:Nat}:∀{es:List (List TV)} (k:Nat),(∀e∈es,e.length=size)→k≤es.length→es.flatten.drop (k*size)=(es.drop k).flatten
 |es,0,_,_=>by simp
 |[],k+1,_,h=>by simp at h
 |e::es,k+1,hz,h=>by
  have h2:=hz e mem_cons_self
  have e1:(k+1)*size=e.length+k*size:=by rw [h2,succ_mul];omega
  rw [flatten_cons,e1,←drop_drop,List.drop_left,List.drop_succ_cons]
  exact iS k (λe he=>hz e (mem_cons_of_mem _ he)) (by simpa using h)
theorem sj {size:Nat}:∀{es:List (List TV)} (k:Nat),(∀e∈es,e.length=size)→k≤es.length→es.flatten.take (k*size)=(es.take k).flatten
 |es,0,_,_=>by simp
 |[],k+1,_,h=>by simp at h
 |e::es,k+1,hz,h=>by
  have h2:=hz e mem_cons_self
  have e1:(k+1)*size=e.length+k*size:=by rw [h2,succ_mul];omega
  rw [flatten_cons,e1,List.take_length_add_append,take_succ_cons,flatten_cons]
  congr 1
  exact sj k (λe he=>hz e (mem_cons_of_mem _ he)) (by simpa using h)
theorem VR.mk_elt {g:Gh}{w:World}{cs:List TV}{b o:Nat}{us:List Value}(hv:VRs g w cs us)
  (hs:∀j,j<cs.length→g.st b (o+j)) (hw:∀(j:Nat) u,us[j]?=some u→w.cell? ⟨b,o+j,none⟩=some u) (h1:∀u∈us,u.oneCell'=true):VR g w (.elt cs) (.pointer (some ⟨b,o,none⟩)):=
 .elt hv.1 h1 hs hw hv.2
theorem VR.mk_agg {g:Gh}{w:World}{cs:List TV}{us:List Value}(h:VRs g w cs us):VR g w (.agg cs) (.agg us.toArray):=.agg h.1 h.2
theorem VR.mk_tup {g:Gh}{w:World}{cs:List TV}{us:List Value}(h:VRs g w cs us):VR g w (.tup cs) (.tuple us.toArray):=.tup h.1 h.2
inductive VO where
 |cells (cs:List TV)
 |row (cs:List TV)
 |map (sh:KS) (look:Value→Option TV) (es:List (Value × TV × Nat)) (ck:Nat)
 |iter (m:TV) (since:Nat) (seen:List Nat) (stepped:Nat)
 |siter (s:ByteArray) (pos:Nat)
 |loop (st:LoopState) (pend:Option Code) (σ:List TV) (ps:Array Tmp) (asg body:Code)
 |defd
 |gone
structure VT where
 objs:List VO
 tails:List (Nat × Nat × Bool)
def VO.live:VO→Bool
 | .gone=>false
 |_=>true
def OR (g:Gh)(w:World)(b:Nat):VO→Prop
 | .cells cs=>∃us t,w.heap[b]?=some (.cells us.toArray t (0,0))∧VRs g w cs us∧∀u∈us,u.oneCell'=true
 | .row cs=>∃(us:List Value) (t:TypeId),w.heap[b]?=some (.cells us.toArray t (0,0))∧cs.length≤us.length∧VRs g w cs (us.take cs.length)∧∀u∈us.take cs.length,u.oneCell'=true
 | .map sh look es ck=>∃ms,w.heap[b]?=some (.map ms ck)∧ms.toList.map (·.key)=es.map (·.1)∧VRs g w (es.map (·.2.1)) (ms.toList.map (·.val))∧ms.toList.map (·.born)=es.map (·.2.2)∧(∀e∈es,sh.fits e.1=true)∧(es.map (·.1)).Nodup∧∀k,sh.fits k=true→look k=dj k es
 | .iter m since seen stepped=>∃mb,w.heap[b]?=some (.mapIter mb since seen.toArray stepped)∧VR g w m (.map mb)
 | .siter s pos=>w.heap[b]?=some (.stringIter s pos)
 | .loop st pend σ ps asg body=>∃(us:List Value) (fn db:Nat),w.heap[b]?=some (.loop {state:=st,pending:=pend,fn:=fn,tmps:=us.toArray,params:=ps,assign:=asg,body:=body,defers:=db})∧VRs g w σ us
 | .defd=>w.heap[b]?=some (.deferred (some []))
 | .gone=>True
def Tl.in (x:Tl)(b o:Nat):Prop:=x.b=b∧x.f≤o∧o<x.lim
def Tl.has (x:Tl)(b:Nat):Prop:=(∃o,x.in b o)∨(x.own=true∧0<x.e∧x.b=b)
def Qd (g:Gh)(w:World)(x:Tl):Prop:=x.own=true→0<x.e→
 (∃cur,w.heap[x.b]?=some (.cells cur x.ty (0,0))∧cur.size=x.lim)∧x.f=x.e*x.size∧x.f≤x.lim∧x.lo≤x.b∧¬g.fr x.b
theorem bG {w:World}{b:Nat}{us:Array Value}{t:TypeId}{fz:Nat × Nat}(h:w.heap[b]?=some (.cells us t fz)):bI w b=us.size:=by unfold bI;rw [h]
structure RW (g:Gh) (T:VT) (w:World):Prop where
 obj:∀(id:Nat) o,T.objs[id]?=some o→o.live=true→∃b,g.obj id=some b∧OR g w b o∧¬g.fr b∧∀o,¬g.st b o
 inj:∀(i j:Nat) oi oj b,T.objs[i]?=some oi→oi.live=true→T.objs[j]?=some oj→oj.live=true→g.obj i=some b→g.obj j=some b→i=j
 out:∀id,T.objs.length≤id→g.obj id=none
 st:∀b o,g.st b o→(w.cell? ⟨b,o,none⟩).isSome=true
 fr:∀b,g.fr b→b<w.heap.size
 tl:∀(k:Nat) p,T.tails[k]?=some p→∃x,g.tail k=some x∧x.e=p.1∧(x.size=p.2.1∧x.born=p.2.2)∧∀b o,x.in b o→(w.cell? ⟨b,o,none⟩).isSome=true∧w.frozen? ⟨b,o,none⟩=false∧¬g.st b o∧¬g.fr b
 tout:∀k,T.tails.length≤k→g.tail k=none
 tinj:∀(i j:Nat) x y b,g.tail i=some x→g.tail j=some y→x.has b→y.has b→i=j
 tobj:∀(i:Nat) oi b (k:Nat) x,T.objs[i]?=some oi→oi.live=true→g.obj i=some b→g.tail k=some x→¬x.has b
 own:∀(k:Nat) x,g.tail k=some x→Qd g w x
 own0:∀(k:Nat) x,g.tail k=some x→(x.own=true∨x.born=true)→x.e=0→x.lim≤x.f∧(x.born=true→x.own=true)
 tlo:∀(k:Nat) x,g.tail k=some x→x.lo≤w.heap.size
theorem Gr.heap {w w':World}(h:Gr w w'){b:Nat}(hb:b<w.heap.size):w'.heap[b]?=w.heap[b]?:=Below.block h b hb
theorem OR.lt {g:Gh}{w:World}{b:Nat}{o:VO}(hl:o.live=true)(h:OR g w b o):b<w.heap.size:=by
 cases o with
 |cells cs=>obtain ⟨us,t,h1,_⟩:=h;exact (Array.getElem?_eq_some_iff.1 h1).1
 |row cs=>obtain ⟨us,t,h1,_⟩:=h;exact (Array.getElem?_eq_some_iff.1 h1).1
 |map sh look es ck=>obtain ⟨ms,h1,_⟩:=h;exact (Array.getElem?_eq_some_iff.1 h1).1
 |iter m since seen stepped=>obtain ⟨mb,h1,_⟩:=h;exact (Array.getElem?_eq_some_iff.1 h1).1
 |siter s pos=>exact (Array.getElem?_eq_some_iff.1 h).1
 |loop st pend σ ps asg body=>obtain ⟨us,fn,db,h1,_⟩:=h;exact (Array.getElem?_eq_some_iff.1 h1).1
 |defd=>exact (Array.getElem?_eq_some_iff.1 h).1
 |gone=>cases hl
theorem OR.mono {g g':Gh}{w w':World}(e:Evo g w g' w'){b:Nat}{o:VO}(hb:w'.heap[b]?=w.heap[b]?)(h:OR g w b o):OR g' w' b o:=by
 cases o with
 |cells cs=>obtain ⟨us,t,h1,h2,h3⟩:=h;exact ⟨us,t,hb.trans h1,h2.mono e,h3⟩
 |row cs=>obtain ⟨us,t,h1,h2,h3,h4⟩:=h;exact ⟨us,t,hb.trans h1,h2,h3.mono e,h4⟩
 |map sh look es ck=>obtain ⟨ms,h1,h2,h3,h4⟩:=h;exact ⟨ms,hb.trans h1,h2,h3.mono e,h4⟩
 |iter m since seen stepped=>obtain ⟨mb,h1,h2⟩:=h;exact ⟨mb,hb.trans h1,h2.mono e⟩
 |siter s pos=>exact hb.trans h
 |loop st pend σ ps asg body=>obtain ⟨us,fn,db,h1,h2⟩:=h;exact ⟨us,fn,db,hb.trans h1,h2.mono e⟩
 |defd=>exact hb.trans h
 |gone=>trivial
structure wF (g:Gh) (T:VT) (b:Nat):Prop where
 fr:¬g.fr b
 st:∀o,¬g.st b o
 obj:∀(id:Nat) o,T.objs[id]?=some o→o.live=true→g.obj id≠some b
 tl:∀(k:Nat) x,g.tail k=some x→¬x.has b
theorem RW.fresh {g:Gh}{T:VT}{w:World}(r:RW g T w){b:Nat}(hb:w.heap.size≤b):wF g T b where
 fr:=λh=>by have:=r.fr b h;omega
 st:=λo h=>by
  have h1:=r.st b o h
  obtain ⟨u,hu⟩:=isSome_iff_exists.1 h1
  have:=kQ hu
  simp at this;omega
 obj:=λid o h hl h2=>by
  obtain ⟨b',h3,h4,_⟩:=r.obj id o h hl
  rw [h2] at h3;injection h3 with h3;subst h3
  have:=OR.lt hl h4;omega
 tl:=λk x hx hi=>by
  rcases hi with ⟨o,hi⟩ | ⟨h1,h2,hb'⟩
  ·rcases lt_or_ge k T.tails.length with hk | hk
   ·obtain ⟨x',h1,_,_,h2⟩:=r.tl k T.tails[k] (getElem?_eq_getElem hk)
    rw [hx] at h1;injection h1 with h1;subst h1
    obtain ⟨u,hu⟩:=isSome_iff_exists.1 (h2 b o hi).1
    have:=kQ hu
    simp at this;omega
   ·rw [r.tout k hk] at hx;cases hx
  ·obtain ⟨⟨cur,h3,_⟩,_⟩:=r.own k x hx h1 h2
   have:=(Array.getElem?_eq_some_iff.1 h3).1
   omega
theorem Evo.of_gr {g:Gh}{T:VT}{w w':World}(r:RW g T w)(k:Gr w w'):Evo g w g w' where
 csz:=λb hb=>by unfold bI;rw [k.heap hb]
 os:=k.os
 tape:=k.tape
 output:=k.output
 size:=k.size
 obj:=λ_ _ h=>h
 st:=λb o h=>⟨h,by
  obtain ⟨u,hu⟩:=isSome_iff_exists.1 (r.st b o h)
  rw [hu];exact k.cell hu⟩
 fr:=rfl
 frb:=λb h=>k.heap (r.fr b h)
 frs:=λ_ _ _ h=>h
 tail:=λ_ x h=>⟨x,h,.inl rfl,rfl,rfl⟩
 tnew:=λ_ _ h h'=>nomatch (h.symm.trans h')
theorem RW.gr {g:Gh}{T:VT}{w w':World}(r:RW g T w)(k:Gr w w'):RW g T w' where
 obj:=λid o h hl=>by
  obtain ⟨b,h1,h2,h3⟩:=r.obj id o h hl
  exact ⟨b,h1,h2.mono (Evo.of_gr r k) (k.heap (h2.lt hl)),h3⟩
 inj:=r.inj
 out:=r.out
 st:=λb o h=>by
  obtain ⟨u,hu⟩:=isSome_iff_exists.1 (r.st b o h)
  rw [k.cell hu];rfl
 fr:=λb h=>lt_of_lt_of_le (r.fr b h) k.size
 tl:=λi p h=>by
  obtain ⟨x,h1,h2,h3,h4⟩:=r.tl i p h
  refine ⟨x,h1,h2,h3,λb o hi=> ?_⟩
  obtain ⟨h5,h6,h7⟩:=h4 b o hi
  obtain ⟨u,hu⟩:=isSome_iff_exists.1 h5
  have hlt:=kQ hu
  exact ⟨by rw [k.cell hu];rfl,by rw [(Gr.cells k).2 b o hlt];exact h6,h7⟩
 tout:=r.tout
 tinj:=r.tinj
 tobj:=r.tobj
 own:=λi x hx h1 h2=>by
  obtain ⟨⟨cur,h3,h4⟩,h5⟩:=r.own i x hx h1 h2
  exact ⟨⟨cur,by rw [k.heap (Array.getElem?_eq_some_iff.1 h3).1];exact h3,h4⟩,h5⟩
 own0:=r.own0
 tlo:=λi x hx=>le_trans (r.tlo i x hx) k.size
def Gh.addObj (g:Gh)(id b:Nat):Gh:={g with obj:=λi=>if i=id then some b else g.obj i}
def Gh.addSt (g:Gh)(b:Nat)(S:Nat→Prop):Gh:={g with st:=λb' o=>g.st b' o∨(b'=b∧S o)}
def Gh.setTail (g:Gh)(k:Nat)(x:Tl):Gh:={g with tail:=λi=>if i=k then some x else g.tail i}
theorem Evo.addObj {g:Gh}{w:World}{id b:Nat}(h:g.obj id=none):Evo g w (g.addObj id b) w where
 csz:=λ_ _=>rfl
 os:=rfl
 tape:=rfl
 output:=rfl
 size:=le_refl _
 obj:=λi b' hb=>by
  show (if i=id then some b else g.obj i)=_
  split
  ·rename_i hi;subst hi;rw [h] at hb;cases hb
  ·exact hb
 st:=λ_ _ h=>⟨h,rfl⟩
 fr:=rfl
 frb:=λ_ _=>rfl
 frs:=λ_ _ _ h=>h
 tail:=λ_ x h=>⟨x,h,.inl rfl,rfl,rfl⟩
 tnew:=λ_ _ h h'=>nomatch (h.symm.trans h')
theorem Evo.addSt {g:Gh}{w:World}{b:Nat}{S:Nat→Prop}(h:¬g.fr b):Evo g w (g.addSt b S) w where
 csz:=λ_ _=>rfl
 os:=rfl
 tape:=rfl
 output:=rfl
 size:=le_refl _
 obj:=λ_ _ h=>h
 st:=λ_ _ h=>⟨.inl h,rfl⟩
 fr:=rfl
 frb:=λ_ _=>rfl
 frs:=λb' o hf hs=>by
  rcases hs with hs | ⟨rfl,_⟩
  ·exact hs
  ·exact absurd hf h
 tail:=λ_ x h=>⟨x,h,.inl rfl,rfl,rfl⟩
 tnew:=λ_ _ h h'=>nomatch (h.symm.trans h')
theorem Evo.setTail {g:Gh}{w:World}{k:Nat}{x:Tl}(h:∀y,g.tail k=some y→y.e<x.e∧x.size=y.size∧x.lo=y.lo)(hn:g.tail k=none→w.heap.size≤x.lo):Evo g w (g.setTail k x) w where
 csz:=λ_ _=>rfl
 os:=rfl
 tape:=rfl
 output:=rfl
 size:=le_refl _
 obj:=λ_ _ h=>h
 st:=λ_ _ h=>⟨h,rfl⟩
 fr:=rfl
 frb:=λ_ _=>rfl
 frs:=λ_ _ _ h=>h
 tail:=λi y hy=>by
  by_cases hi:i=k
  ·subst hi;exact ⟨x,by simp [Gh.setTail],.inr (h y hy).1,(h y hy).2⟩
  ·exact ⟨y,by simp [Gh.setTail,hi,hy],.inl rfl,rfl,rfl⟩
 tnew:=λi y h1 h2=>by
  by_cases hi:i=k
  ·subst hi;simp [Gh.setTail] at h2;subst h2;exact hn h1
  ·simp [Gh.setTail,hi] at h2;rw [h1] at h2;cases h2
theorem RW.addObj {g:Gh}{T:VT}{w:World}(r:RW g T w){b:Nat}(f:wF g T b){o:VO}(hl:o.live=true)(h:OR g w b o):
  RW (g.addObj T.objs.length b) {T with objs:=T.objs++ [o]} w:=by
 have hn:g.obj T.objs.length=none:=r.out _ (le_refl _)
 have e:=Evo.addObj (w:=w) (b:=b) hn
 have key:∀(id:Nat) o',(T.objs++ [o])[id]?=some o'→(T.objs[id]?=some o'∧id<T.objs.length)∨(id=T.objs.length∧o'=o):=by
  intro id o' h'
  rcases lt_or_ge id T.objs.length with hi | hi
  ·rw [getElem?_append_left hi] at h';exact .inl ⟨h',hi⟩
  ·rw [getElem?_append_right hi] at h'
   have:id-T.objs.length=0:=by
    rcases eq_zero_or_pos (id-T.objs.length) with h0 | h0
    ·exact h0
    ·rw [getElem?_eq_none (by simp;omega)] at h';cases h'
   rw [this] at h';simp at h'
   exact .inr ⟨by omega,h'.symm⟩
 have old:∀id,id<T.objs.length→(g.addObj T.objs.length b).obj id=g.obj id:=λid hi=>by simp [Gh.addObj,Nat.ne_of_lt hi]
 have new:(g.addObj T.objs.length b).obj T.objs.length=some b:=by simp [Gh.addObj]
 refine ⟨?_,?_,?_,r.st,r.fr,r.tl,r.tout,r.tinj,?_,r.own,r.own0,r.tlo⟩
 ·intro id o' h' hl'
  rcases key id o' h' with ⟨h1,hi⟩ | ⟨rfl,rfl⟩
  ·obtain ⟨b',h2,h3,h4⟩:=r.obj id o' h1 hl'
   exact ⟨b',by rw [old id hi];exact h2,h3.mono e rfl,h4⟩
  ·exact ⟨b,new,h.mono e rfl,f.fr,f.st⟩
 ·intro i j oi oj b' h1 l1 h2 l2 b1 b2
  rcases key i oi h1 with ⟨h3,hi⟩ | ⟨rfl,rfl⟩<;>rcases key j oj h2 with ⟨h4,hj⟩ | ⟨rfl,rfl⟩
  ·rw [old i hi] at b1;rw [old j hj] at b2;exact r.inj i j oi oj b' h3 l1 h4 l2 b1 b2
  ·rw [old i hi] at b1;rw [new] at b2;injection b2 with b2;subst b2;exact absurd b1 (f.obj i oi h3 l1)
  ·rw [old j hj] at b2;rw [new] at b1;injection b1 with b1;subst b1;exact absurd b2 (f.obj j oj h4 l2)
  ·rfl
 ·intro id hid
  have:id≠T.objs.length:=by simp at hid;omega
  simp [Gh.addObj,this]
  exact r.out id (by simp at hid;omega)
 ·intro i oi b' k x h1 l1 b1 hx hin
  rcases key i oi h1 with ⟨h1,hi⟩ | ⟨rfl,rfl⟩
  ·rw [old i hi] at b1;exact r.tobj i oi b' k x h1 l1 b1 hx hin
  ·rw [new] at b1;injection b1 with b1;subst b1;exact f.tl k x hx hin
theorem RW.addSt {g:Gh}{T:VT}{w:World}(r:RW g T w){b:Nat}{S:Nat→Prop}(hf:¬g.fr b)(ho:∀(id:Nat) o,T.objs[id]?=some o→o.live=true→g.obj id≠some b)
  (ht:∀(k:Nat) x o,g.tail k=some x→S o→¬x.in b o) (hS:∀o,S o→(w.cell? ⟨b,o,none⟩).isSome=true):RW (g.addSt b S) T w:=by
 have e:=Evo.addSt (w:=w) (S:=S) hf
 refine ⟨?_,r.inj,r.out,?_,r.fr,?_,r.tout,r.tinj,r.tobj,r.own,r.own0,r.tlo⟩
 ·intro id o h hl
  obtain ⟨b',h1,h2,h3,h4⟩:=r.obj id o h hl
  refine ⟨b',h1,h2.mono e rfl,h3,λo' hs=> ?_⟩
  rcases hs with hs | ⟨rfl,_⟩
  ·exact h4 o' hs
  ·exact ho id o h hl h1
 ·intro b' o hs
  rcases hs with hs | ⟨rfl,hs⟩
  ·exact r.st b' o hs
  ·exact hS o hs
 ·intro k p h
  obtain ⟨x,h1,h2,h3,h4⟩:=r.tl k p h
  refine ⟨x,h1,h2,h3,λb' o hi=> ?_⟩
  obtain ⟨h5,h6,h7,h8⟩:=h4 b' o hi
  refine ⟨h5,h6,λhs=> ?_,h8⟩
  rcases hs with hs | ⟨rfl,hs⟩
  ·exact h7 hs
  ·exact ht k x o h1 hs hi
theorem RW.setTail {g:Gh}{T T':VT}{w:World}(r:RW g T w){k:Nat}{x:Tl}(ho:T'.objs=T.objs)(htl:T'.tails=(T.tails++ [(x.e,x.size,x.born)])∧k=T.tails.length∨(T'.tails=T.tails.set k (x.e,x.size,x.born)∧k<T.tails.length))
  (hz:∀b o,x.in b o→(w.cell? ⟨b,o,none⟩).isSome=true∧w.frozen? ⟨b,o,none⟩=false∧¬g.st b o∧¬g.fr b)
  (hobj:∀(i:Nat) oi b,T.objs[i]?=some oi→oi.live=true→g.obj i=some b→¬x.has b)
  (hoth:∀(j:Nat) y b,j≠k→g.tail j=some y→x.has b→¬y.has b) (hgrow:∀y,g.tail k=some y→y.e<x.e∧x.size=y.size∧x.lo=y.lo) (hnew:g.tail k=none→w.heap.size≤x.lo) (hown:Qd g w x) (hown0:(x.own=true∨x.born=true)→x.e=0→x.lim≤x.f∧(x.born=true→x.own=true)) (hlo:x.lo≤w.heap.size):RW (g.setTail k x) T' w:=by
 have e:=Evo.setTail (w:=w) hgrow hnew
 have hk:(g.setTail k x).tail k=some x:=by simp [Gh.setTail]
 have hne:∀j,j≠k→(g.setTail k x).tail j=g.tail j:=λj hj=>by simp [Gh.setTail,hj]
 have hlen:T.tails.length≤T'.tails.length∧(∀j,j<T'.tails.length→j=k∨j<T.tails.length)∧T'.tails[k]?=some (x.e,x.size,x.born)∧(∀j,j≠k→T'.tails[j]?=T.tails[j]?):=by
  rcases htl with ⟨h,rfl⟩ | ⟨h,hlt⟩
  ·rw [h]
   refine ⟨by simp,λj hj=>by simp at hj;omega,by simp,λj hj=> ?_⟩
   rcases lt_or_ge j T.tails.length with h1 | h1
   ·rw [getElem?_append_left h1]
   ·rw [getElem?_eq_none (by simp;omega),getElem?_eq_none h1]
  ·rw [h]
   refine ⟨by simp,λj hj=>by simp at hj;omega,by simp [hlt],λj hj=> ?_⟩
   rw [getElem?_set]
   rw [if_neg (λh=>hj h.symm)]
 refine ⟨?_,?_,?_,r.st,r.fr,?_,?_,?_,?_,?_,λj y hy=> ?_,λj y hy=>by
  by_cases hj:j=k
  ·subst hj;rw [hk] at hy;injection hy with hy;subst hy;exact hlo
  ·rw [hne j hj] at hy;exact r.tlo j y hy⟩
 rotate_left 8
 ·by_cases hj:j=k
  ·subst hj;rw [hk] at hy;injection hy with hy;subst hy;exact hown0
  ·rw [hne j hj] at hy;exact r.own0 j y hy
 ·intro id o h hl
  rw [ho] at h
  obtain ⟨b',h1,h2,h3⟩:=r.obj id o h hl
  exact ⟨b',h1,h2.mono e rfl,h3⟩
 ·rw [ho];exact r.inj
 ·rw [ho];exact r.out
 ·intro j p h
  by_cases hj:j=k
  ·subst hj
   rw [hlen.2.2.1] at h;injection h with h;subst h
   exact ⟨x,hk,rfl,⟨rfl,rfl⟩,hz⟩
  ·rw [hlen.2.2.2 j hj] at h
   obtain ⟨y,h1,h2,h3,h4⟩:=r.tl j p h
   exact ⟨y,by rw [hne j hj];exact h1,h2,h3,h4⟩
 ·intro j hj
  have:j≠k:=by rcases htl with ⟨h,rfl⟩ | ⟨h,hlt⟩<;>(rw [h] at hj;simp at hj;omega)
  rw [hne j this];exact r.tout j (by omega)
 ·intro i j y z b h1 h2 i1 i2
  by_cases hik:i=k<;>by_cases hjk:j=k
  ·omega
  ·subst hik;rw [hk] at h1;injection h1 with h1;subst h1;rw [hne j hjk] at h2;exact absurd i2 (hoth j z b hjk h2 i1)
  ·subst hjk;rw [hk] at h2;injection h2 with h2;subst h2;rw [hne i hik] at h1;exact absurd i1 (hoth i y b hik h1 i2)
  ·rw [hne i hik] at h1;rw [hne j hjk] at h2
   exact r.tinj i j y z b h1 h2 i1 i2
 ·intro i oi b j y h1 l1 b1 hy hin
  rw [ho] at h1
  by_cases hj:j=k
  ·subst hj;rw [hk] at hy;injection hy with hy;subst hy;exact hobj i oi b h1 l1 b1 hin
  ·rw [hne j hj] at hy;exact r.tobj i oi b j y h1 l1 b1 hy hin
 ·intro j y hy
  by_cases hj:j=k
  ·subst hj;rw [hk] at hy;injection hy with hy;subst hy;exact hown
  ·rw [hne j hj] at hy;exact r.own j y hy
theorem RW.setObj {g:Gh}{T:VT}{w:World}(r:RW g T w){id b:Nat}{o o':VO}(hid:T.objs[id]?=some o)(hl:o.live=true)(hb:g.obj id=some b){w':World}
  (hos:w'.os=w.os∧w'.tape=w.tape∧w'.output=w.output) (hsz:w'.heap.size=w.heap.size) (hoth:∀c,c≠b→w'.heap[c]?=w.heap[c]?) (hcs:bI w' b=bI w b) (ho:o'.live=true→OR g w' b o'):
  RW g {T with objs:=T.objs.set id o' } w'∧Evo g w g w':=by
 have hlt:id<T.objs.length:=(List.getElem?_eq_some_iff.1 hid).1
 obtain ⟨b0,h1,h2,hnf,hns⟩:=r.obj id o hid hl
 rw [hb] at h1;injection h1 with h1;subst h1
 have cellne:∀c p,c≠b→w'.cell? ⟨c,p,none⟩=w.cell? ⟨c,p,none⟩:=λc p hc=>by unfold cell?;simp only [hoth c hc]
 have frzne:∀c p,c≠b→w'.frozen? ⟨c,p,none⟩=w.frozen? ⟨c,p,none⟩:=λc p hc=>by unfold frozen?;simp only [hoth c hc]
 have e:Evo g w g w':=⟨hos.1,hos.2.1,hos.2.2,by omega,λ_ _ h=>h,λc p hs=>⟨hs,cellne c p (by rintro rfl;exact hns p hs)⟩,rfl,
  λc hc=>hoth c (by rintro rfl;exact hnf hc),λ_ _ _ h=>h,λ_ x h=>⟨x,h,.inl rfl,rfl,rfl⟩,(λ_ _ h h'=>nomatch (h.symm.trans h')),λc hc=>by
   by_cases h:c=b
   ·subst h;exact hcs
   ·unfold bI;rw [hoth c h]⟩
 refine ⟨⟨?_,?_,?_,?_,?_,?_,r.tout,r.tinj,?_,?_,r.own0,λj y hy=>by rw [hsz];exact r.tlo j y hy⟩,e⟩
 ·intro i oi h hli
  rw [getElem?_set] at h
  split at h
  ·rename_i hi;subst hi
   injection h with h;subst h
   exact ⟨b,hb,ho hli,hnf,hns⟩
  ·rename_i hi
   obtain ⟨c,h3,h4,h5⟩:=r.obj i oi h hli
   refine ⟨c,h3,h4.mono e (hoth c ?_),h5⟩
   rintro rfl
   exact hi (r.inj id i o oi c hid hl h hli hb h3)
 ·intro i j oi oj c hi li hj lj
  have key:∀(i:Nat) oi,(T.objs.set id o')[i]?=some oi→oi.live=true→∃oo,T.objs[i]?=some oo∧oo.live=true:=by
   intro i oi hi li
   rw [getElem?_set] at hi
   split at hi
   ·rename_i he;subst he;exact ⟨o,hid,hl⟩
   ·exact ⟨oi,hi,li⟩
  obtain ⟨o1,a1,a2⟩:=key i oi hi li
  obtain ⟨o2,a3,a4⟩:=key j oj hj lj
  exact r.inj i j o1 o2 c a1 a2 a3 a4
 ·intro i hi;exact r.out i (by simpa using hi)
 ·intro c p hs
  rw [cellne c p (by rintro rfl;exact hns p hs)];exact r.st c p hs
 ·intro c hc;rw [hsz];exact r.fr c hc
 ·intro k p h
  obtain ⟨x,h1,h2,h3,h4⟩:=r.tl k p h
  refine ⟨x,h1,h2,h3,λc q hin=> ?_⟩
  have hc:c≠b:=by
   rintro rfl
   exact r.tobj id o c k x hid hl hb h1 (.inl ⟨q,hin⟩)
  rw [cellne c q hc,frzne c q hc]
  exact h4 c q hin
 ·intro i oi c k x hi li hc hx
  have key:∃oo,T.objs[i]?=some oo∧oo.live=true:=by
   rw [getElem?_set] at hi
   split at hi
   ·rename_i he;subst he;exact ⟨o,hid,hl⟩
   ·exact ⟨oi,hi,li⟩
  obtain ⟨o1,a1,a2⟩:=key
  exact r.tobj i o1 c k x a1 a2 hc hx
 ·intro k x hx h1 h2
  obtain ⟨⟨cur,h3,h3'⟩,h4⟩:=r.own k x hx h1 h2
  have hne:x.b≠b:=λhe=>r.tobj id o b k x hid hl hb hx (.inr ⟨h1,h2,he⟩)
  exact ⟨⟨cur,by rw [hoth x.b hne];exact h3,h3'⟩,h4⟩
theorem RW.new {g:Gh}{T:VT}{w:World}(r:RW g T w)(ob:Obj){o:VO}(hl:o.live=true)(h:OR g (w.alloc ob) w.heap.size o):
  ∃g',RW g' {T with objs:=T.objs++ [o]} (w.alloc ob)∧Evo g w g' (w.alloc ob)∧g'.obj T.objs.length=some w.heap.size∧g'.st=g.st:=by
 have k:=(Gr.refl w).alloc ob
 exact ⟨_,(r.gr k).addObj (r.fresh (le_refl _)) hl h,(Evo.of_gr r k).trans (Evo.addObj (r.out _ (le_refl _))),by simp [Gh.addObj],rfl⟩
theorem RW.newSt {g:Gh}{T:VT}{w:World}(r:RW g T w)(us:List Value)(t:TypeId):
  ∃g',RW g' T (w.alloc (.cells us.toArray t))∧Evo g w g' (w.alloc (.cells us.toArray t))∧(∀j,j<us.length→g'.st w.heap.size j)∧g'.tail=g.tail:=by
 have k:=(Gr.refl w).alloc (.cells us.toArray t)
 have f:=r.fresh (le_refl w.heap.size)
 refine ⟨g.addSt w.heap.size (· <us.length),(r.gr k).addSt f.fr f.obj (λk x o hx _ h=>f.tl k x hx (.inl ⟨o,h⟩)) (λo ho=> ?_),(Evo.of_gr r k).trans (Evo.addSt f.fr),λj hj=>.inr ⟨rfl,hj⟩,rfl⟩
 rw [vJ w us t o us[o] (getElem?_eq_getElem ho)];rfl
structure Same (g:Gh) (T:VT) (w w':World):Prop where
 st:∀b o,g.st b o→w'.cell? ⟨b,o,none⟩=w.cell? ⟨b,o,none⟩
 obj:∀(id:Nat) o b,T.objs[id]?=some o→o.live=true→g.obj id=some b→w'.heap[b]?=w.heap[b]?
theorem Same.refl (g:Gh)(T:VT)(w:World):Same g T w w:=⟨λ_ _ _=>rfl,λ_ _ _ _ _ _=>rfl⟩
def Looks (P:Program)(g:Gh)(T:VT)(w:World)(s:Sem Value)(x:TV):Prop:=∃v,VR g w x v∧∀w',Same g T w w'→s.run P w'=.ok v w'
def bZ (P:Program){α:Type}:Sem α→Option α
 | .pure a=>some a
 | .program k=>bZ P (k P)
 | .mark _ k=>bZ P k
 |_=>none
theorem nd {P:Program}{α:Type}{a:α}:∀{s:Sem α},bZ P s=some a→∀w,s.run P w=.ok a w
 | .pure b,h,w=>by simp [bZ] at h;subst h;rfl
 | .program k,h,w=>by simp only [bZ] at h;simp only [Sem.run];exact nd h w
 | .mark _ k,h,w=>by simp only [bZ] at h;simp only [Sem.run];exact nd h w
 | .load ..,h,_=>by simp [bZ] at h
 | .store ..,h,_=>by simp [bZ] at h
 | .new ..,h,_=>by simp [bZ] at h
 | .shape ..,h,_=>by simp [bZ] at h
 | .freeze ..,h,_=>by simp [bZ] at h
 | .frozen ..,h,_=>by simp [bZ] at h
 | .getObj ..,h,_=>by simp [bZ] at h
 | .setObj ..,h,_=>by simp [bZ] at h
 | .choose ..,h,_=>by simp [bZ] at h
 | .sys ..,h,_=>by simp [bZ] at h
 | .halt _,h,_=>by simp [bZ] at h
section
variable {P:Program}{g:Gh}{T:VT}{w:World}
def kR:List TV→Option (List Value)
 |[]=>some []
 | .val v::r=>(kR r).map (v:: ·)
 |_::_=>none
theorem oQ:∀{cs:List TV} {vs us:List Value},kR cs=some vs→VRs g w cs us→us=vs
 |[],vs,us,h,k=>by simp [kR] at h;subst h;exact List.eq_nil_of_length_eq_zero k.1
 |c::r,vs,us,h,k=>by
  cases c<;>simp [kR] at h
  rename_i v
  obtain ⟨vs',h1,rfl⟩:=h
  cases us with
  |nil=>have:=k.1;simp at this
  |cons u us=>
   have h2:=(k.2 0 (.val v) u rfl rfl).val_inv
   have h3:=oQ h1 (us:=us) ⟨by have:=k.1;simpa using this,λj x u hx hu=>k.2 (j+1) x u (by simpa using hx) (by simpa using hu)⟩
   rw [h2,h3]
def cL:TV→Option Value
 | .val v=>some v
 | .agg cs=>(kR cs).map λvs=>.agg vs.toArray
 |_=>none
theorem cE {x:TV}{v u:Value}(h:cL x=some v)(k:VR g w x u):u=v:=by
 cases x<;>simp [cL] at h
 ·subst h;exact k.val_inv
 ·obtain ⟨vs,h1,rfl⟩:=h
  obtain ⟨us,rfl,h2⟩:=k.agg_inv
  rw [oQ h1 h2]
def Looks0 (P:Program)(g:Gh)(w:World)(s:Sem Value)(x:TV):Prop:=∃v,VR g w x v∧∀w',s.run P w'=.ok v w'
theorem Looks0.looks {s:Sem Value}{x:TV}(h:Looks0 P g w s x):Looks P g T w s x:=by obtain ⟨v,h1,h2⟩:=h;exact ⟨v,h1,λw' _=>h2 w'⟩
theorem Looks0.of_pure {s:Sem Value}{v:Value}(h:bZ P s=some v):Looks0 P g w s (.val v):=⟨v,.val v,λw'=>nd h w'⟩
theorem Looks0.of_ok {s:Sem Value}{x:TV}{v:Value}(hv:VR g w x v)(h:∀w',s.run P w'=.ok v w'):Looks0 P g w s x:=⟨v,hv,h⟩
theorem Looks.of_pure {s:Sem Value}{v:Value}(h:bZ P s=some v):Looks P g T w s (.val v):=⟨v,.val v,λw' _=>nd h w'⟩
theorem Looks.of_ok {s:Sem Value}{x:TV}{v:Value}(hv:VR g w x v)(h:∀w',s.run P w'=.ok v w'):Looks P g T w s x:=⟨v,hv,λw' _=>h w'⟩
def kS:TypeDesc→Bool
 | .struct _ | .array _ _=>true
 |_=>false
theorem kx {t:TypeId}{d:TypeDesc}(h:P.underlying t=some d)(w:World):(isAgg t).run P w=.ok (kS d) w:=by
 unfold isAgg
 rw [run_bind,run_underlying h w]
 cases d<;>rfl
theorem nO {t:TypeId}{i:TypeInfo}(h:P.info? t=some i)(w:World):(typeInfo t).run P w=.ok i w:=by simp [typeInfo,h]
theorem bH {t:TypeId}{i:TypeInfo}(h:P.info? t=some i)(w:World):(sizeOf t).run P w=.ok i.size w:=by simp [sizeOf,typeInfo,h]
def dY (op:BinOp)(b:Bool):Option TV:=match op with
 | .eql=>some (.val (.bool b))
 | .neq=>some (.val (.bool !b))
 |_=>none
def A1:TV→Bool
 | .ptr .. | .elt .. =>true
 |_=>false
def MH (P:Program)(op:BinOp)(t:TypeId)(x y:TV):Option TV:=match P.underlying t,x,y with
 |some (.pointer _),x,.val (.pointer none)=>if A1 x then dY op false else none
 |some (.pointer _),.val (.pointer none),y=>if A1 y then dY op false else none
 |some (.map _ _),.map _,.val (.map none)=>dY op false
 |some (.map _ _),.val (.map none),.map _=>dY op false
 |some (.func _ _ _),.fn _ _ _,.val .nilFunc=>dY op false
 |_,_,_=>none
def Br (P:Program)(op:BinOp)(t:TypeId)(xo yo:Operand)(x y:TV):Option TV:=match cL x,cL y with
 |some a,some b=>(bZ P (do eqGuard op t xo yo a b;binOp op t a b)).map .val
 |_,_=>MH P op t x y
theorem zC {x:TV}{u:Value}(h:A1 x=true)(k:VR g w x u):∃a,u=.pointer (some a):=by
 cases x<;>simp [A1] at h
 ·obtain ⟨b,_,rfl⟩:=k.ptr_inv;exact ⟨_,rfl⟩
 ·obtain ⟨b,o,us,rfl,_⟩:=k.elt_inv;exact ⟨_,rfl⟩
theorem jn {op:BinOp}{t:TypeId}{xo yo:Operand}{u v:Value}{b:Bool}{x:TV}(h:dY op b=some x)(hg:∀op,eqGuard op t xo yo u v=pure ())
  (he:∀w,(equal t u v).run P w=.ok b w) (h1:binOp .eql t u v=(do pure (.bool (←equal t u v)))) (h2:binOp .neq t u v=(do pure (.bool (!(←equal t u v))))):
  Looks0 P g w (do eqGuard op t xo yo u v;binOp op t u v) x:=by
 cases op<;>simp [dY] at h
 all_goals
  subst h
  refine .of_ok (.val _) λw'=> ?_
  rw [hg]
  first | rw [h1] | rw [h2]
  simp [he]
theorem fk {t:TypeId}{u v:Value}{b:Bool}(h:∀d w,(equalIn (d+1) t u v).run P w=.ok b w)(w:World):(equal t u v).run P w=.ok b w:=h 9999 w
theorem Ek {op:BinOp}{t:TypeId}{xo yo:Operand}{x y r:TV}{u v:Value}(h:Br P op t xo yo x y=some r)(hx:VR g w x u)(hy:VR g w y v):
  Looks0 P g w (do eqGuard op t xo yo u v;binOp op t u v) r:=by
 unfold Br at h
 split at h
 ·rename_i a b ha hb
  rw [cE ha hx,cE hb hy]
  simp only [map_eq_some_iff] at h
  obtain ⟨c,h,rfl⟩:=h
  exact .of_pure h
 ·unfold MH at h
  split at h
  ·obtain ⟨e,hu⟩:∃e,P.underlying t=some (.pointer e):=⟨_,by assumption⟩
   split at h
   ·rename_i hr
    obtain ⟨a,rfl⟩:=zC hr hx
    rw [hy.val_inv]
    exact jn h (λop=>by cases op<;>rfl) (fk λd w=>by rw [equalIn];simp [run_underlying hu]) rfl rfl
   ·cases h
  ·obtain ⟨e,hu⟩:∃e,P.underlying t=some (.pointer e):=⟨_,by assumption⟩
   split at h
   ·rename_i hr
    obtain ⟨a,rfl⟩:=zC hr hy
    rw [hx.val_inv]
    exact jn h (λop=>by cases op<;>rfl) (fk λd w=>by rw [equalIn];simp [run_underlying hu]) rfl rfl
   ·cases h
  ·obtain ⟨k,e,hu⟩:∃k e,P.underlying t=some (.map k e):=⟨_,_,by assumption⟩
   obtain ⟨b,_,rfl⟩:=hx.map_inv
   rw [hy.val_inv]
   exact jn h (λop=>by cases op<;>rfl) (fk λd w=>by rw [equalIn];simp [run_underlying hu]) rfl rfl
  ·obtain ⟨k,e,hu⟩:∃k e,P.underlying t=some (.map k e):=⟨_,_,by assumption⟩
   obtain ⟨b,_,rfl⟩:=hy.map_inv
   rw [hx.val_inv]
   exact jn h (λop=>by cases op<;>rfl) (fk λd w=>by rw [equalIn];simp [run_underlying hu]) rfl rfl
  ·obtain ⟨a,b,c,hu⟩:∃a b c,P.underlying t=some (.func a b c):=⟨_,_,_,by assumption⟩
   obtain ⟨us,vs,rfl,_⟩:=hx.fn_inv
   rw [hy.val_inv]
   exact jn h (λop=>by cases op<;>rfl) (fk λd w=>by rw [equalIn];simp [run_underlying hu]) rfl rfl
  ·cases h
def dC (T:VT):TV→Nat→Option (List TV)
 | .ptr id off,n=>match T.objs[id]? with
  |some (.cells cs)=>if off+n≤cs.length then some ((cs.drop off).take n) else none
  |some (.row cs)=>if off+n≤cs.length then some ((cs.drop off).take n) else none
  |_=>none
 | .elt cs,n=>if n≤cs.length then some (cs.take n) else none
 |_,_=>none
def jp (P:Program)(T:VT)(t:TypeId)(x:TV):Option TV:=match P.underlying t,P.info? t with
 |some d,some i=>if kS d then (dC T x i.size).map .agg else match dC T x 1 with
  |some [y]=>some y
  |_=>none
 |_,_=>none
theorem Addr.add_none (b o j:Nat):(⟨b,o,none⟩:Addr).add j=⟨b,o+j,none⟩:=by unfold Addr.add;split<;>simp_all
theorem wG (r:RW g T w){x:TV}{n:Nat}{cs:List TV}{u:Value}(h:dC T x n=some cs)(hx:VR g w x u):
  ∃b o us,u=.pointer (some ⟨b,o,none⟩)∧VRs g w cs us∧cs.length=n∧∀w',Same g T w w'→∀(j:Nat) v,us[j]?=some v→w'.cell? ⟨b,o+j,none⟩=some v:=by
 cases x<;>simp only [dC] at h<;>try cases h
 ·rename_i id off
  split at h
  ·rename_i cs' hid
   split at h
   ·rename_i hle
    injection h with h;subst h
    obtain ⟨b,hb,rfl⟩:=hx.ptr_inv
    obtain ⟨b',h1,⟨us,t,h2,h3,_⟩,_⟩:=r.obj id _ hid rfl
    rw [hb] at h1;injection h1 with h1;subst h1
    refine ⟨b,off,(us.drop off).take n,rfl,(h3.drop off).take n,by simp;omega,λw' hs j v hv=> ?_⟩
    rw [cell?,hs.obj id _ b hid rfl hb,h2]
    simp only [getElem?_take,getElem?_drop] at hv
    split at hv
    ·simpa using hv
    ·cases hv
   ·cases h
  ·rename_i cs' hid
   split at h
   ·rename_i hle
    injection h with h;subst h
    obtain ⟨b,hb,rfl⟩:=hx.ptr_inv
    obtain ⟨b',h1,⟨us,t,h2,h3,h4,_⟩,_⟩:=r.obj id _ hid rfl
    rw [hb] at h1;injection h1 with h1;subst h1
    refine ⟨b,off,((us.take cs'.length).drop off).take n,rfl,(h4.drop off).take n,by simp;omega,λw' hs j v hv=> ?_⟩
    rw [cell?,hs.obj id _ b hid rfl hb,h2]
    simp only [getElem?_take,getElem?_drop] at hv
    split at hv
    ·split at hv
     ·simpa using hv
     ·cases hv
    ·cases hv
   ·cases h
  ·cases h
 ·rename_i cs'
  split at h
  ·rename_i hle
   injection h with h;subst h
   obtain ⟨b,o,us,rfl,h1,h2,h3,_⟩:=hx.elt_inv
   refine ⟨b,o,us.take n,rfl,h1.take n,by simp;omega,λw' hs j v hv=> ?_⟩
   simp only [getElem?_take] at hv
   split at hv
   ·rw [hs.st _ _ (h2 j (by rw [←h1.1];exact (List.getElem?_eq_some_iff.1 hv).1))]
    exact h3 j v hv
   ·cases hv
  ·cases h
theorem vK (r:RW g T w){t:TypeId}{x y:TV}{u:Value}(h:jp P T t x=some y)(hx:VR g w x u):Looks P g T w (loadAt t u) y:=by
 unfold jp at h
 split at h
 ·rename_i d i hd hi
  split at h
  ·rename_i hag
   simp only [map_eq_some_iff] at h
   obtain ⟨cs,h,rfl⟩:=h
   obtain ⟨b,o,us,rfl,h1,h2,h3⟩:=wG r h hx
   refine ⟨.agg us.toArray,.mk_agg h1,λw' hs=> ?_⟩
   have hl:(loadCells ⟨b,o,none⟩ us.length).run P w'=.ok us.toArray w':=run_loadCells_list (P:=P) w' ⟨b,o,none⟩ us (λj v hv=>by rw [Addr.add_none];exact h3 w' hs j v hv)
   rw [h1.1,h2] at hl
   simp [loadAt,sureAddr,loadVar,kx hd,hag,bH hi,hl]
  ·rename_i hag
   split at h
   ·rename_i y' hc
    injection h with h;subst h
    obtain ⟨b,o,us,rfl,h1,h2,h3⟩:=wG r hc hx
    obtain ⟨v,hv,hvr⟩:=h1.at (j:=0) rfl
    refine ⟨v,hvr,λw' hs=> ?_⟩
    have:=h3 w' hs 0 v hv
    simp only [add_zero] at this
    simp [loadAt,sureAddr,loadVar,kx hd,hag,run_load,this]
   ·cases h
 ·cases h
def nf (P:Program)(s:TypeId)(x:TV)(f:Nat):Option TV:=match P.underlying s with
 |some (.struct fs)=>match fs[f]? with
  |some fd=>match P.info? fd.type with
   |some i=>if i.size=0 then none else match x with
    | .ptr id off=>some (.ptr id (off+fd.offset))
    | .elt cs=>if fd.offset≤cs.length then some (.elt (cs.drop fd.offset)) else none
    |_=>none
   |none=>none
  |none=>none
 |_=>none
theorem VR.elt_drop {cs:List TV}{b o k:Nat}(hk:k≤cs.length)(h:VR g w (.elt cs) (.pointer (some ⟨b,o,none⟩))):VR g w (.elt (cs.drop k)) (.pointer (some ⟨b,o+k,none⟩)):=by
 obtain ⟨b',o',us,e,h1,h2,h3,h4⟩:=h.elt_inv
 injection e with e;injection e with e;injection e with e1 e2;subst e1 e2
 refine .mk_elt (h1.drop k) (λj hj=> ?_) (λj u hu=> ?_) (λu hu=>h4 u (mem_of_mem_drop hu))
 ·rw [add_assoc];exact h2 _ (by simp at hj;omega)
 ·rw [add_assoc];exact h3 _ u (by simpa using hu)
theorem rP {s:TypeId}{x y:TV}{f:Nat}{u:Value}(h:nf P s x f=some y)(hx:VR g w x u):Looks0 P g w (fieldAt s u f) y:=by
 unfold nf at h
 split at h
 ·rename_i fs hs
  split at h
  ·rename_i fd hf
   split at h
   ·rename_i i hi
    split at h
    ·cases h
    ·rename_i hz
     split at h
     ·injection h with h;subst h
      obtain ⟨b,hb,rfl⟩:=hx.ptr_inv
      exact .of_ok (.ptr hb) λw'=>by simp [fieldAt,run_underlying hs,hf,sureAddr,fieldPlace,bH hi,hz,Addr.add_none]
     ·split at h
      ·rename_i cs hle
       injection h with h;subst h
       obtain ⟨b,o,us,rfl,h1,h2,h3,_⟩:=hx.elt_inv
       exact .of_ok (hx.elt_drop hle) λw'=>by simp [fieldAt,run_underlying hs,hf,sureAddr,fieldPlace,bH hi,hz,Addr.add_none]
      ·cases h
     ·cases h
   ·cases h
  ·cases h
 ·cases h
def A2 (P:Program)(t:TypeId)(cs:List TV)(off:Nat):Option TV:=match P.underlying t,P.info? t with
 |some d,some i=>if kS d then (if off+i.size≤cs.length then some (.agg ((cs.drop off).take i.size)) else none) else cs[off]?
 |_,_=>none
theorem Bt {t:TypeId}{cs:List TV}{us:List Value}{off:Nat}{y:TV}(h:A2 P t cs off=some y)(hx:VRs g w cs us):Looks0 P g w (part t us.toArray off) y:=by
 unfold A2 at h
 split at h
 ·rename_i d i hd hi
  split at h
  ·rename_i hag
   split at h
   ·injection h with h;subst h
    refine .of_ok (.mk_agg ((hx.drop off).take i.size)) λw'=> ?_
    simp [part,kx hd,hag,bH hi,List.extract_eq_take_drop]
   ·cases h
  ·rename_i hag
   obtain ⟨v,hv,hvr⟩:=hx.at h
   exact .of_ok hvr λw'=>by simp [part,kx hd,hag,hv]
 ·cases h
def wH (P:Program)(t:TypeId)(x:TV)(f:Nat):Option TV:=match P.underlying t,x with
 |some (.struct fs),.agg cs=>match fs[f]? with
  |some fd=>A2 P fd.type cs fd.offset
  |none=>none
 |_,_=>none
theorem Looks.run {s:Sem Value}{y:TV}(h:Looks P g T w s y):∃v,VR g w y v∧s.run P w=.ok v w:=by obtain ⟨v,h1,h2⟩:=h;exact ⟨v,h1,h2 w (Same.refl _ _ _)⟩
theorem zD {t:TypeId}{x y:TV}{f:Nat}{u:Value}(h:wH P t x f=some y)(hx:VR g w x u):Looks0 P g w (Instr.field t u f) y:=by
 unfold wH at h
 split at h
 ·rename_i fs cs hs
  split at h
  ·rename_i fd hf
   obtain ⟨us,rfl,h1⟩:=hx.agg_inv
   obtain ⟨v,h2,h3⟩:=Bt h h1
   exact ⟨v,h2,λw'=>by simp [Instr.field,run_underlying hs,hf,asAgg,h3 w']⟩
  ·cases h
 ·cases h
def fP (P:Program)(t:TypeId)(x i:TV):Option TV:=match i with
 | .val (.int _ z)=>match P.underlying t with
  |some (.slice e)=>match P.info? e with
   |some inf=>match x with
    | .vec size es _=>if inf.size=size then (if 0≤z then (es[z.toNat]?).map .elt else none) else none
    | .sl id off n _=>if 0≤z∧z<n then some (.ptr id (off+z.toNat*inf.size)) else none
    |_=>none
   |none=>none
  |some (.array n e)=>match P.info? e with
   |some inf=>if 0≤z∧z<n then (match x with
    | .ptr id off=>some (.ptr id (off+z.toNat*inf.size))
    | .elt cs=>if z.toNat*inf.size≤cs.length then some (.elt (cs.drop (z.toNat*inf.size))) else none
    |_=>none) else none
   |none=>none
  |_=>none
 |_=>none
theorem FF {size:Nat}{es:List (List TV)}{k:Nat}{e:List TV}(hz:∀e∈es,e.length=size)(h:es[k]?=some e):(es.flatten.drop (k*size)).take size=e:=by
 have hk:=(List.getElem?_eq_some_iff.1 h).1
 rw [iS k hz (Nat.le_of_lt hk),List.drop_eq_getElem_cons hk]
 have h2:es[k]=e:=(List.getElem?_eq_some_iff.1 h).2
 rw [h2,flatten_cons,List.take_append_of_le_length (by rw [hz e (h2▸List.getElem_mem hk)];exact le_refl _),List.take_of_length_le (by rw [hz e (h2▸List.getElem_mem hk)];exact le_refl _)]
theorem VR.vec_at {size:Nat}{es:List (List TV)}{tok:Tok}{u:Value}(h:VR g w (.vec size es tok) u){k:Nat}{e:List TV}(he:es[k]?=some e):
  ∃b o c,u=.slice (some ⟨b,o,none⟩) es.length c∧VR g w (.elt e) (.pointer (some ⟨b,o+k*size,none⟩)):=by
 have hk:=(List.getElem?_eq_some_iff.1 he).1
 rcases h.vec_inv with ⟨_,rfl,_⟩ | ⟨b,o,c,us,rfl,h1,h2,h3,h4,h5,h6,h7,h8⟩ | ⟨_,_,rfl,_⟩
 rotate_left 2
 ·simp at hk
 ·simp at hk
 ·refine ⟨b,o,c,rfl,?_⟩
  have hf:=cf h3
  have hle:(k+1)*size≤es.flatten.length:=by rw [hf];exact mul_le_mul_right _ hk
  rw [succ_mul] at hle
  have e1:=(h5.drop (k*size)).take size
  rw [FF h3 he] at e1
  have hes:e.length=size:=h3 e ((List.getElem?_eq_some_iff.1 he).2▸List.getElem_mem hk)
  refine .mk_elt e1 (λj hj=> ?_) (λj v hv=> ?_) (λu hu=>h8 u (mem_of_mem_drop (mem_of_mem_take hu)))
  ·rw [add_assoc];exact h6 _ (by omega)
  ·rw [add_assoc]
   simp only [getElem?_take,getElem?_drop] at hv
   split at hv
   ·exact h7 _ v hv
   ·cases hv
theorem rQ {t:TypeId}{x i y:TV}{u v:Value}(h:fP P t x i=some y)(hx:VR g w x u)(hi:VR g w i v):Looks0 P g w (indexAt t u v) y:=by
 unfold fP at h
 split at h
 ·rename_i k z
  rw [hi.val_inv]
  split at h
  ·rename_i e hu
   split at h
   ·rename_i inf hinf
    split at h
    ·rename_i size es tok
     split at h
     ·rename_i hsz
      split at h
      ·rename_i hz0
       simp only [map_eq_some_iff] at h
       obtain ⟨e',he,rfl⟩:=h
       have hk:=(List.getElem?_eq_some_iff.1 he).1
       obtain ⟨b,o,c,rfl,h1⟩:=hx.vec_at he
       have hlt:z<(es.length:Int):=by omega
       exact .of_ok h1 λw'=>by simp [indexAt,asIntOf,run_underlying hu,hz0,hlt,bH hinf,Addr.add_none,hsz]
      ·cases h
     ·cases h
    ·rename_i id off n cap
     split at h
     ·rename_i hz
      injection h with h;subst h
      obtain ⟨b,hb,rfl⟩:=hx.sl_inv
      exact .of_ok (.ptr hb) λw'=>by simp [indexAt,asIntOf,run_underlying hu,hz.1,hz.2,bH hinf,Addr.add_none]
     ·cases h
    ·cases h
   ·cases h
  ·rename_i n e hu
   split at h
   ·rename_i inf hinf
    split at h
    ·rename_i hz
     split at h
     ·injection h with h;subst h
      obtain ⟨b,hb,rfl⟩:=hx.ptr_inv
      exact .of_ok (.ptr hb) λw'=>by simp [indexAt,asIntOf,run_underlying hu,sureAddr,hz.1,hz.2,bH hinf,Addr.add_none]
     ·split at h
      ·rename_i cs hle
       injection h with h;subst h
       obtain ⟨b,o,us,rfl,_⟩:=hx.elt_inv
       exact .of_ok (hx.elt_drop hle) λw'=>by simp [indexAt,asIntOf,run_underlying hu,sureAddr,hz.1,hz.2,bH hinf,Addr.add_none]
      ·cases h
     ·cases h
    ·cases h
   ·cases h
  ·cases h
 ·cases h
end
section
variable {P:Program}{g:Gh}{T:VT}{w:World}
def ek:TV→Option Nat
 | .val (.int _ z)=>if 0≤z then some z.toNat else none
 |_=>none
theorem qN {x:TV}{n:Nat}{u:Value}(h:ek x=some n)(hx:VR g w x u):∃k,u=.int k (n:Int):=by
 unfold ek at h
 split at h
 ·split at h
  ·rename_i k z hz
   injection h with h
   exact ⟨k,by rw [hx.val_inv,←h,Int.toNat_of_nonneg hz]⟩
  ·cases h
 ·cases h
def dS:Option TV→Option Nat
 |none=>some 0
 |some x=>ek x
def nP (P:Program)(t:TypeId)(x:TV)(lo hi mx:Option TV):Option TV:=match mx with
 |some _=>none
 |none=>match P.underlying t with
  |some .string=>match x with
   | .val (.string s)=>(match dS lo,(match hi with | none=>some s.size | some y=>ek y) with
    |some l,some h=>if l≤h∧h≤s.size then some (.val (.string (s.extract l h))) else none
    |_,_=>none)
   |_=>none
  |some (.slice e)=>match P.info? e with
   |some inf=>(match x with
    | .vec size es tok=>if inf.size=size then (match dS lo,hi with
     |some l,none=>if l≤es.length then some (.vec size (es.drop l) tok) else none
     |some l,some y=>(match ek y with
      |some h=>if l≤h∧h≤es.length then some (.vec size ((es.take h).drop l) .none) else none
      |none=>none)
     |_,_=>none) else none
    | .sl id off n cap=>(match dS lo,(match hi with | none=>some n | some y=>ek y) with
     |some l,some h=>if l≤h∧h≤cap∧l<cap then some (.sl id (off+l*inf.size) (h-l) (cap-l)) else none
     |_,_=>none)
    |_=>none)
   |none=>none
  |some (.array n e)=>match P.info? e,x with
   |some inf,.ptr id off=>(match dS lo,(match hi with | none=>some n | some y=>ek y) with
    |some l,some h=>if l≤h∧h≤n∧l<n then some (.sl id (off+l*inf.size) (h-l) (n-l)) else none
    |_,_=>none)
   |_,_=>none
  |_=>none
theorem oR {u:Value}{k:IntKind}{n y:Nat}{c:BoundsCode}(h:n≤y)(hu:u=.int k (n:Int))(w:World):(Instr.sliceBound u y c).run P w=.ok n w:=by
 subst hu
 simp [Instr.sliceBound,asIntOf,h]
def BR (g:Gh)(w:World)(x:Option TV)(u:Option Value):Prop:=match x,u with
 |none,none=>True
 |some x,some u=>VR g w x u
 |_,_=>False
theorem El {lo:Option TV}{u:Option Value}{l y:Nat}{c:BoundsCode}(h:dS lo=some l)(hr:BR g w lo u)(hl:l≤y)(w':World):
  ((match u with | some v=>Instr.sliceBound v y c | none=>pure 0:Sem Nat)).run P w'=.ok l w':=by
 cases lo with
 |none=>cases u with
  |none=>simp [dS] at h;subst h;rfl
  |some v=>exact hr.elim
 |some x=>cases u with
  |none=>exact hr.elim
  |some v=>
   obtain ⟨k,hk⟩:=qN h hr
   exact oR hl hk w'
theorem gQ {isS:Bool}{len cap l h:Nat}{lo hi:Option TV}{ul uh:Option Value}(h1:dS lo=some l)(h2:(match hi with | none=>some len | some y=>ek y)=some h)(hl:BR g w lo ul)(hh:BR g w hi uh)
  (hle:l≤h) (hc:h≤cap) (w':World):(Instr.sliceBounds isS len cap ul uh none).run P w'=.ok (l,h,cap) w':=by
 have e2:((match uh,(none:Option Value) with
  |some v,some _=>Instr.sliceBound v cap .slice3B
  |some v,none=>Instr.sliceBound v cap (if isS then .sliceAcap else .sliceAlen)
  |none,none=>pure len
  |none,some _=>stuck "Slice: max without high" :Sem Nat)).run P w'=.ok h w':=by
  cases hi with
  |none=>cases uh with
   |none=>simp at h2;subst h2;rfl
   |some v=>exact hh.elim
  |some x=>cases uh with
   |none=>exact hh.elim
   |some v=>
    obtain ⟨k,hk⟩:=qN h2 hh
    exact oR hc hk w'
 have e1:=El (P:=P) (y:=h) (c:=.sliceB) h1 hl hle w'
 cases uh<;>cases ul<;>simp_all [Instr.sliceBounds]
theorem VR.vec_drop {size:Nat}{es:List (List TV)}{tok:Tok}{u:Value}(h:VR g w (.vec size es tok) u){l:Nat}(hl:l≤es.length):
  ∃a n c,u=.slice a n c∧n=es.length∧n≤c∧VR g w (.vec size (es.drop l) tok) (.slice (if c=l then a else a.map (·.add (l*size))) (n-l) (c-l))∧
   ∀hh,l≤hh→hh≤es.length→VR g w (.vec size ((es.take hh).drop l) .none) (.slice (if c=l then a else a.map (·.add (l*size))) (hh-l) (c-l)):=by
 rcases h.vec_inv with ⟨rfl,rfl,h1⟩ | ⟨b,o,c,us,rfl,h1,h2,h3,h4,h5,h6,h7,h8⟩ | ⟨a,rfl,rfl,h1⟩
 rotate_left 2
 ·have:l=0:=by simpa using hl
  subst this
  refine ⟨some a,0,0,rfl,rfl,le_refl _,by simpa using VR.odd a h1,λhh _ h2=> ?_⟩
  simp at h2;subst h2
  simpa using VR.odd (tok:=.none) a trivial
 ·have:l=0:=by simpa using hl
  subst this
  refine ⟨none,0,0,rfl,rfl,le_refl _,by simpa using VR.nil h1,λhh _ h2=> ?_⟩
  simp at h2;subst h2
  simpa using VR.nil (tok:=.none) trivial
 ·refine ⟨_,_,c,rfl,rfl,h1,?_,λhh hlh hh2=> ?_⟩
  ·by_cases hcl:c=l
   ·have:l=es.length:=by omega
    subst this
    rw [if_pos hcl,List.drop_of_length_le (le_refl _)]
    refine .mk_vec (us:= []) (by simp) (by omega) (by omega) (by simp) ?_ (by simpa using VRs.nil g w) (by simp) (by simp) (by simp)
    cases tok with
    |none=>trivial
    |live=>trivial
    |full=>simp only [TokOk];omega
    |tail k e=>obtain ⟨x,a1,a2,a3,_⟩:=h4;exact ⟨x,a1,a2,a3,λ_ hlt=>by omega,λhe ho=>⟨by omega,λ_ hp=>by omega⟩⟩
    |past id off=>exact λhlt=>absurd hlt (by omega)
    |arg m=>exact .inl (by simp)
   ·rw [if_neg hcl]
    simp only [map_some,Addr.add_none]
    have hfl:=cf h3
    have hmul:l*size≤es.length*size:=mul_le_mul_right _ hl
    refine .mk_vec (us:=us.drop (l*size)) (by simp) (by omega) (by omega) (λe he=>h3 e (mem_of_mem_drop he)) ?_ ?_ (λj hj=> ?_) (λj v hv=> ?_) (λu hu=>h8 u (mem_of_mem_drop hu))
    ·cases tok with
     |none=>trivial
     |live=>trivial
     |full=>simp only [TokOk] at h4 ⊢;omega
     |arg m=>exact (eq_zero_or_pos _).imp id λhp=>h4.resolve_left (by omega)
     |past id off=>
      exact λhlt=>by
       obtain ⟨d1,d2,d3,d4⟩:=h4 (by omega)
       have hm2:l*size≤c*size:=mul_le_mul_right _ (by omega)
       refine ⟨d1,d2,?_,?_⟩
       ·rw [sub_mul];omega
       ·rw [sub_mul];omega
     |tail k e=>
      obtain ⟨x,a1,a2,a3,a4,a5⟩:=h4
      refine ⟨x,a1,a2,a3,λhe hlt=> ?_,λhe hown=> ?_⟩
      rotate_left
      ·obtain ⟨d1,d2⟩:=a5 he hown
       refine ⟨by omega,λhn hp=> ?_⟩
       have:l=0:=by omega
       subst this
       simpa using d2 (by omega) (by omega)
      obtain ⟨b1,b2,b3⟩:=a4 he (by omega)
      refine ⟨b1,?_,?_⟩
      ·rw [b2,sub_mul];omega
      ·rw [b3,sub_mul]
       have:l*size≤c*size:=mul_le_mul_right _ (by omega)
       omega
    ·rw [←iS l h3 hl];exact h5.drop _
    ·rw [add_assoc]
     rw [←iS l h3 hl,List.length_drop] at hj
     exact h6 _ (by omega)
    ·rw [add_assoc];exact h7 _ v (by simpa using hv)
  ·by_cases hcl:c=l
   ·have:l=es.length:=by omega
    subst this
    have:hh=es.length:=by omega
    subst this
    rw [if_pos hcl,List.take_length,List.drop_of_length_le (le_refl _)]
    exact .mk_vec (us:= []) (by simp) (by omega) (by omega) (by simp) trivial (by simpa using VRs.nil g w) (by simp) (by simp) (by simp)
   ·rw [if_neg hcl]
    simp only [map_some,Addr.add_none]
    have hfl:=cf h3
    have hmul:l*size≤hh*size:=mul_le_mul_right _ hlh
    have hmul2:hh*size≤es.length*size:=mul_le_mul_right _ hh2
    have hft:((es.take hh).drop l).flatten=(es.flatten.take (hh*size)).drop (l*size):=by
     rw [sj hh h3 hh2,iS l (λe he=>h3 e (mem_of_mem_take he)) (by simp;omega)]
    refine .mk_vec (us:=(us.take (hh*size)).drop (l*size)) (by simp;omega) (by omega) (by omega) (λe he=>h3 e (mem_of_mem_take (mem_of_mem_drop he))) trivial ?_ (λj hj=> ?_) (λj v hv=> ?_) (λu hu=>h8 u (mem_of_mem_take (mem_of_mem_drop hu)))
    ·rw [hft];exact (h5.take _).drop _
    ·rw [hft] at hj
     rw [add_assoc];exact h6 _ (by simp at hj;omega)
    ·rw [add_assoc]
     simp only [getElem?_drop,getElem?_take] at hv
     split at hv
     ·exact h7 _ v hv
     ·cases hv
theorem zE {t:TypeId}{x y:TV}{lo hi mx:Option TV}{u:Value}{ul uh um:Option Value}(h:nP P t x lo hi mx=some y)(hx:VR g w x u)(hl:BR g w lo ul)(hh:BR g w hi uh)(hm:BR g w mx um):
  Looks0 P g w (sliceAt t u ul uh um) y:=by
 unfold nP at h
 split at h
 ·cases h
 cases um with
 |some _=>exact hm.elim
 |none=>
 split at h
 ·rename_i hu
  split at h
  ·split at h
   ·rename_i s l hh' h1 h2
    split at h
    ·rename_i hle
     injection h with h;subst h
     rw [hx.val_inv]
     exact .of_ok (.val _) λw'=>by simp [sliceAt,run_underlying hu,Instr.slice,gQ h1 h2 hl hh hle.1 hle.2]
    ·cases h
   ·cases h
  ·cases h
 ·rename_i e hu
  split at h
  ·rename_i inf hinf
   split at h
   ·rename_i size es tok
    split at h
    ·rename_i hsz
     split at h
     ·rename_i l h1
      split at h
      ·rename_i hle
       injection h with h;subst h
       obtain ⟨a,n,c,rfl,rfl,hnc,h2,_⟩:=hx.vec_drop hle
       exact .of_ok h2 λw'=>by
        have e1:=gQ (P:=P) (isS:=true) (len:=es.length) (cap:=c) (h:=es.length) (hi:=none) h1 rfl hl hh hle hnc w'
        simp [sliceAt,run_underlying hu,Instr.slice,e1,bH hinf,hsz]
      ·cases h
     ·rename_i l hy h1
      split at h
      ·rename_i h' h2
       split at h
       ·rename_i hle
        injection h with h;subst h
        obtain ⟨a,n,c,rfl,rfl,hnc,_,h3⟩:=hx.vec_drop (l:=l) (by omega)
        exact .of_ok (h3 h' hle.1 hle.2) λw'=>by
         have e1:=gQ (P:=P) (isS:=true) (len:=es.length) (cap:=c) (h:=h') (hi:=some hy) h1 h2 hl hh hle.1 (by omega) w'
         simp [sliceAt,run_underlying hu,Instr.slice,e1,bH hinf,hsz]
       ·cases h
      ·cases h
     ·cases h
    ·cases h
   ·rename_i id off n cap
    split at h
    ·rename_i l h' h1 h2
     split at h
     ·rename_i hle
      injection h with h;subst h
      obtain ⟨b,hb,rfl⟩:=hx.sl_inv
      exact .of_ok (.sl hb) λw'=>by
       have e1:=gQ (P:=P) (isS:=true) (len:=n) (cap:=cap) (h:=h') h1 h2 hl hh hle.1 hle.2.1 w'
       have e2:¬cap=l:=by omega
       simp [sliceAt,run_underlying hu,Instr.slice,e1,bH hinf,e2,Addr.add_none]
     ·cases h
    ·cases h
   ·cases h
  ·cases h
 ·rename_i n e hu
  split at h
  ·rename_i inf id off hinf
   split at h
   ·rename_i l h' h1 h2
    split at h
    ·rename_i hle
     injection h with h;subst h
     obtain ⟨b,hb,rfl⟩:=hx.ptr_inv
     exact .of_ok (.sl hb) λw'=>by
      have e1:=gQ (P:=P) (isS:=false) (len:=n) (cap:=n) (h:=h') h1 h2 hl hh hle.1 hle.2.1 w'
      have e2:¬n=l:=by omega
      simp [sliceAt,run_underlying hu,sureAddr,e1,bH hinf,e2,Addr.add_none]
    ·cases h
   ·cases h
  ·cases h
 ·cases h
def pE (P:Program)(T:VT)(t:TypeId)(x:TV):Option TV:=match P.underlying t with
 |some (.slice _)=>(match x with
  | .vec _ es _=>some (.val (.int .i64 es.length))
  | .sl _ _ n _=>some (.val (.int .i64 n))
  | .val (.slice _ n _)=>some (.val (.int .i64 n))
  |_=>none)
 |some .string=>(match x with
  | .val (.string s)=>some (.val (.int .i64 s.size))
  |_=>none)
 |some (.array n _)=>some (.val (.int .i64 n))
 |some (.map _ _)=>(match x with
  | .val (.map none)=>some (.val (.int .i64 0))
  | .map id=>(match T.objs[id]? with
   |some (.map _ _ es _)=>some (.val (.int .i64 es.length))
   |_=>none)
  |_=>none)
 |_=>none
theorem NO (r:RW g T w){t ty:TypeId}{x y:TV}{u:Value}(h:pE P T t x=some y)(hx:VR g w x u):Looks P g T w (len_ #[t] ty #[u]) y:=by
 unfold pE at h
 split at h
 ·rename_i e hu
  split at h
  ·injection h with h;subst h
   rcases hx.vec_inv with ⟨rfl,rfl,_⟩ | ⟨b,o,c,us,rfl,_⟩ | ⟨a,rfl,rfl,_⟩
   ·exact .of_ok (.val _) λw'=>by simp [len_,run_underlying hu,goInt]
   ·exact .of_ok (.val _) λw'=>by simp [len_,run_underlying hu,goInt]
   ·exact .of_ok (.val _) λw'=>by simp [len_,run_underlying hu,goInt]
  ·injection h with h;subst h
   obtain ⟨b,_,rfl⟩:=hx.sl_inv
   exact .of_ok (.val _) λw'=>by simp [len_,run_underlying hu,goInt]
  ·injection h with h;subst h
   rw [hx.val_inv]
   exact .of_ok (.val _) λw'=>by simp [len_,run_underlying hu,goInt]
  ·cases h
 ·rename_i hu
  split at h
  ·injection h with h;subst h
   rw [hx.val_inv]
   exact .of_ok (.val _) λw'=>by simp [len_,run_underlying hu,goInt]
  ·cases h
 ·rename_i n e hu
  injection h with h;subst h
  exact .of_ok (.val _) λw'=>by simp [len_,run_underlying hu,goInt]
 ·rename_i k e hu
  split at h
  ·injection h with h;subst h
   rw [hx.val_inv]
   exact .of_ok (.val _) λw'=>by simp [len_,run_underlying hu,goInt]
  ·split at h
   ·rename_i id _ sh look es ck hid
    injection h with h;subst h
    obtain ⟨b,hb,rfl⟩:=hx.map_inv
    obtain ⟨b',h1,⟨ms,h2,h3,_⟩,_⟩:=r.obj id _ hid rfl
    rw [hb] at h1;injection h1 with h1;subst h1
    have hl:ms.size=es.length:=by
     have:=congrArg length h3
     simpa using this
    exact ⟨_,.val _,λw' hs=>by
     have h4:w'.heap[b]?=some (.map ms ck):=(hs.obj id _ b hid rfl hb).trans h2
     simp [len_,run_underlying hu,getObj,Sem.run,h4,goInt,hl]⟩
   ·cases h
  ·cases h
 ·cases h
def gv (P:Program)(T:VT)(c:Call)(ev:Operand→TV):Option TV:=match c.callee with
 | .builtin .len=>match c.argTypes.toList,c.args.toList with
  |[t],[x]=>pE P T t (ev x)
  |_,_=>none
 | .builtin .min=>(kR (c.args.toList.map ev)).bind λvs=>(bZ P (min_ c.argTypes 0 vs.toArray)).map .val
 | .builtin .max=>(kR (c.args.toList.map ev)).bind λvs=>(bZ P (max_ c.argTypes 0 vs.toArray)).map .val
 |_=>none
def cM (P:Program)(T:VT)(op:Op)(ev:Operand→TV):Option TV:=match op with
 | .move x | .assign x=>some (ev x)
 | .pick c a b=>match ev c with
  | .val (.bool t)=>some (bif t then ev a else ev b)
  |_=>none
 | .binOp op t x y _=>Br P op t x y (ev x) (ev y)
 | .unOp op _ x=>(cL (ev x)).bind λv=>(bZ P (Op.unary op v)).map .val
 | .convert s d x=>(cL (ev x)).bind λv=>(bZ P (Go.convert s d v)).map .val
 | .field t x f=>wH P t (ev x) f
 | .fieldAddr s x f=>nf P s (ev x) f
 | .indexAddr t x i=>fP P t (ev x) (ev i)
 | .index t x i=>(cL (ev x)).bind λa=>(cL (ev i)).bind λb=>(bZ P (Instr.index t a b)).map .val
 | .load t a=>jp P T t (ev a)
 | .slice t x lo hi mx=>nP P t (ev x) (lo.map ev) (hi.map ev) (mx.map ev)
 | .extract x i=>match ev x with
  | .tup cs=>cs[i]?
  | .val (.tuple vs)=>(vs[i]?).map .val
  |_=>none
 | .makeInterface t x=>match P.underlying t with
  |some (.interface _)=>none
  |some _=>some (.ifc t (ev x))
  |none=>none
 | .makeFunc f fi ca=>some (.fn f (fi.toList.map ev) (ca.toList.map ev))
 | .nilCheck x=>match ev x with
  | .ptr a b=>some (.ptr a b)
  | .elt cs=>some (.elt cs)
  |_=>none
 | .call c=>gv P T c ev
 |_=>none
theorem jq {ev:Operand→TV}{ρ:Operand→Value}(hev:∀x,VR g w (ev x) (ρ x))(l:List Operand):VRs g w (l.map ev) (l.map ρ):=
 ⟨by simp,λj x u hx hu=>by
  rw [getElem?_map] at hx hu
  cases hl:l[j]? with
  |none=>rw [hl] at hx;cases hx
  |some y=>rw [hl] at hx hu;simp at hx hu;subst hx hu;exact hev y⟩
theorem BR.map {ev:Operand→TV}{ρ:Operand→Value}(hev:∀x,VR g w (ev x) (ρ x))(o:Option Operand):BR g w (o.map ev) (o.map ρ):=by cases o<;>simp [BR,hev]
theorem yB (f:Operand→Value)(a:Array Operand):a.map f=(a.toList.map f).toArray:=by rw [←toList_map]
theorem Looks.next {s:Sem Value}{y:TV}{n:Sem Next}(h:Looks P g T w s y)(e:n=(do pure (.value (←s)))):∃v,VR g w y v∧∀w',Same g T w w'→n.run P w'=.ok (.value v) w':=by
 obtain ⟨v,h1,h2⟩:=h
 exact ⟨v,h1,λw' hs=>by subst e;simp [h2 w' hs]⟩
set_option maxHeartbeats 1000000 in
theorem Bu (r:RW g T w){o:Oper}{ev:Operand→TV}{ρ:Operand→Value}{y:TV}(h:cM P T o.op ev=some y)(hev:∀x,VR g w (ev x) (ρ x)):
  ∃v,VR g w y v∧∀w',Same g T w w'→(execOp ρ o).run P w'=.ok (.value v) w':=by
 obtain ⟨dst,op,ty,pos,af,gd⟩:=o
 simp only at h
 cases op<;>simp only [cM] at h<;>try (cases h)
 case move x=>exact ⟨_,hev x,λw' _=>rfl⟩
 case assign x=>exact ⟨_,hev x,λw' _=>rfl⟩
 case pick c a b=>
  split at h
  ·rename_i t hc
   injection h with h;subst h
   have h1:=hev c
   rw [hc] at h1
   refine ⟨bif t then ρ a else ρ b,by cases t<;>simp [hev],λw' _=> ?_⟩
   simp only [execOp,h1.val_inv]
   cases t<;>rfl
  ·cases h
 case binOp op t x y yt=>exact (Ek h (hev x) (hev y)).looks.next (by rfl)
 case unOp op t x=>
  simp only [bind_eq_some_iff,map_eq_some_iff] at h
  obtain ⟨v,h1,c,h2,rfl⟩:=h
  exact (Looks.of_pure (T:=T) h2).next (by simp only [execOp,cE h1 (hev x)])
 case convert s d x=>
  simp only [bind_eq_some_iff,map_eq_some_iff] at h
  obtain ⟨v,h1,c,h2,rfl⟩:=h
  exact (Looks.of_pure (T:=T) h2).next (by simp only [execOp,cE h1 (hev x)])
 case field t x f=>exact (zD h (hev x)).looks.next (by rfl)
 case fieldAddr s x f=>exact (rP h (hev x)).looks.next (by rfl)
 case indexAddr t x i=>exact (rQ h (hev x) (hev i)).looks.next (by rfl)
 case index t x i=>
  simp only [bind_eq_some_iff,map_eq_some_iff] at h
  obtain ⟨v,h1,v2,h2,c,h3,rfl⟩:=h
  exact (Looks.of_pure (T:=T) h3).next (by simp only [execOp,cE h1 (hev x),cE h2 (hev i)])
 case load t a=>exact (vK r h (hev a)).next (by rfl)
 case slice t x lo hi mx=>exact (zE h (hev x) (BR.map hev lo) (BR.map hev hi) (BR.map hev mx)).looks.next (by rfl)
 case extract x i=>
  split at h
  ·rename_i cs hc
   have h1:=hev x
   rw [hc] at h1
   obtain ⟨us,h2,h3⟩:=h1.tup_inv
   obtain ⟨v,h4,h5⟩:=h3.at h
   exact ⟨v,h5,λw' _=>by simp [execOp,h2,Instr.extract,h4]⟩
  ·rename_i vs hc
   have h1:=hev x
   rw [hc] at h1
   simp only [map_eq_some_iff] at h
   obtain ⟨v,h2,rfl⟩:=h
   exact ⟨v,.val v,λw' _=>by simp [execOp,h1.val_inv,Instr.extract,h2]⟩
  ·cases h
 case makeInterface t x=>
  split at h
  ·cases h
  ·rename_i d hnd hd
   injection h with h;subst h
   refine ⟨_,.ifc (hev x),λw' _=> ?_⟩
   simp only [execOp,Instr.makeInterface,run_bind,run_underlying hd,andThen_ok]
   cases d<;>first | rfl | exact absurd rfl (hnd _)
  ·cases h
 case makeFunc f fi ca=>
  have h1:=jq hev fi.toList
  have h2:=jq hev ca.toList
  exact ⟨_,.fn h1.1 h1.2 h2.1 h2.2,λw' _=>by simp [execOp,Instr.makeFunc,yB]⟩
 case nilCheck x=>
  split at h
  ·rename_i a b hc
   injection h with h;subst h
   have h1:=hev x
   rw [hc] at h1
   obtain ⟨c,hb,h2⟩:=h1.ptr_inv
   exact ⟨_,.ptr hb,λw' _=>by simp [execOp,h2]⟩
  ·rename_i cs hc
   injection h with h;subst h
   have h1:=hev x
   rw [hc] at h1
   have h3:=h1
   obtain ⟨b,o,us,h2,_⟩:=h1.elt_inv
   rw [h2] at h3
   exact ⟨_,h3,λw' _=>by simp [execOp,h2]⟩
  ·cases h
 case call c=>
  obtain ⟨cal,args,ats⟩:=c
  unfold gv at h
  split at h
  ·rename_i hc
   simp only at hc;subst hc
   split at h
   ·rename_i t x h1 h2
    simp only at h1 h2
    have e1:ats= #[t]:=by rw [←toArray_toList (xs:=ats),h1]
    have e2:args= #[x]:=by rw [←toArray_toList (xs:=args),h2]
    subst e1 e2
    exact (NO r (ty:=ty) h (hev x)).next (by simp [execOp,resolve,invoke,builtin])
   ·cases h
  ·rename_i hc
   simp only at hc;subst hc
   simp only [bind_eq_some_iff,map_eq_some_iff] at h
   obtain ⟨vs,h1,c,h2,rfl⟩:=h
   have h3:=oQ h1 (jq hev args.toList)
   have h4:args.map ρ=vs.toArray:=by rw [←h3,yB]
   exact (Looks.of_pure (T:=T) (s:=min_ ats ty vs.toArray) h2).next (by simp [execOp,resolve,invoke,builtin,h4])
  ·rename_i hc
   simp only at hc;subst hc
   simp only [bind_eq_some_iff,map_eq_some_iff] at h
   obtain ⟨vs,h1,c,h2,rfl⟩:=h
   have h3:=oQ h1 (jq hev args.toList)
   have h4:args.map ρ=vs.toArray:=by rw [←h3,yB]
   exact (Looks.of_pure (T:=T) (s:=max_ ats ty vs.toArray) h2).next (by simp [execOp,resolve,invoke,builtin,h4])
  ·cases h
end
section
variable {P:Program}{g:Gh}{T:VT}{w:World}
def fQ:TV→Bool
 | .val v=>v.oneCell'
 | .agg _ | .tup _ | .dead=>false
 |_=>true
theorem HQ {x:TV}{u:Value}(h:fQ x=true)(k:VR g w x u):u.oneCell'=true:=by
 cases k<;>first | exact h | rfl | cases h
def bR:TV→Option (List TV)
 | .agg cs=>some cs
 | .val (.agg us)=>some (us.toList.map .val)
 | .dead=>none
 |x=>some [x]
theorem kT {x:TV}{cs:List TV}{u:Value}(h:bR x=some cs)(k:VR g w x u):VRs g w cs u.cells.toList:=by
 cases k with
 |val=>
  cases u<;>simp [bR] at h<;>subst h
  all_goals first
   |exact VRs.vals g w _
   |exact .cons (.val _) (.nil g w)
 |agg hl hv=>simp [bR] at h;subst h;exact ⟨by simpa [Value.cells] using hl,λj x u hx hu=>hv j x u hx (by simpa [Value.cells] using hu)⟩
 |dead v=>cases h
 |nil hk=>simp [bR] at h;subst h;exact .cons (.nil hk) (.nil g w)
 |odd a hk=>simp [bR] at h;subst h;exact .cons (.odd a hk) (.nil g w)
 |ptr hk=>simp [bR] at h;subst h;exact .cons (.ptr hk) (.nil g w)
 |sl hk=>simp [bR] at h;subst h;exact .cons (.sl hk) (.nil g w)
 |map hk=>simp [bR] at h;subst h;exact .cons (.map hk) (.nil g w)
 |yld hk=>simp [bR] at h;subst h;exact .cons (.yld hk) (.nil g w)
 |row a1 a2 a3 a4 a5=>simp [bR] at h;subst h;exact .cons (.row a1 a2 a3 a4 a5) (.nil g w)
 |vec a1 a2 a3 a4 a5 a6 a7 a8 a9=>simp [bR] at h;subst h;exact .cons (.vec a1 a2 a3 a4 a5 a6 a7 a8 a9) (.nil g w)
 |elt a1 a2 a3 a4 a5=>simp [bR] at h;subst h;exact .cons (.elt a1 a2 a3 a4 a5) (.nil g w)
 |tup a1 a2=>simp [bR] at h;subst h;exact .cons (.tup a1 a2) (.nil g w)
 |fn a1 a2 a3 a4=>simp [bR] at h;subst h;exact .cons (.fn a1 a2 a3 a4) (.nil g w)
 |ifc a1=>simp [bR] at h;subst h;exact .cons (.ifc a1) (.nil g w)
theorem ky {cs:List TV}{us:List Value}(h:cs.all fQ=true)(k:VRs g w cs us):∀u∈us,u.oneCell'=true:=by
 intro u hu
 obtain ⟨j,hj⟩:=mem_iff_getElem?.1 hu
 have hlt:=(List.getElem?_eq_some_iff.1 hj).1
 have h2:cs[j]?=some (cs[j]'(by rw [←k.1];exact hlt)):=getElem?_eq_getElem _
 exact HQ (all_eq_true.1 h _ (List.getElem_mem _)) (k.2 j _ u h2 hj)
def Does (P:Program)(g:Gh)(T:VT)(w:World)(s:Sem Value)(y:TV)(T':VT):Prop:=∃v g' w',s.run P w=.ok v w'∧VR g' w' y v∧Evo g w g' w'∧RW g' T' w'∧Same g T w w'
theorem Same.of_gr {g:Gh}{T:VT}{w w':World}(r:RW g T w)(k:Gr w w'):Same g T w w':=⟨λb o h=>((Evo.of_gr r k).st b o h).2,λid o b h hl hb=>by
 obtain ⟨b',h1,h2,_⟩:=r.obj id o h hl
 rw [hb] at h1;injection h1 with h1;subst h1
 exact k.heap (h2.lt hl)⟩
def sk (T:VT)(cs:List TV):Option (TV × VT):=if cs.all fQ then some (.ptr T.objs.length 0,{T with objs:=T.objs++ [.cells cs]}) else none
theorem Em (r:RW g T w){t:TypeId}{cs:List TV}{u:Value}{y:TV}{T':VT}(h:sk T cs=some (y,T'))(k:VRs g w cs u.cells.toList):Does P g T w (do pure (.pointer (some (←newVar t u)))) y T':=by
 unfold sk at h
 split at h
 ·rename_i h1
  injection h with h;injection h with e1 e2;subst e1 e2
  have k':OR g (w.alloc (.cells u.cells t)) w.heap.size (.cells cs):=⟨u.cells.toList,t,by simpa using heap_alloc_new w _,k.mono (Evo.of_gr r ((Gr.refl w).alloc _)),ky h1 k⟩
  obtain ⟨g',r',e',hb,_⟩:=r.new (.cells u.cells t) rfl k'
  exact ⟨_,g',_,by simp [newVar,newRow],.ptr hb,e',r',Same.of_gr r ((Gr.refl w).alloc _)⟩
 ·cases h
def mq (P:Program)(T:VT)(t:TypeId):Option (TV × VT):=match P.info? t with
 |some i=>match i.zero with
  |some z=>sk T (z.cells.toList.map .val)
  |none=>none
 |none=>none
theorem HR (r:RW g T w){t:TypeId}{y:TV}{T':VT}(h:mq P T t=some (y,T')):Does P g T w (Instr.alloc t true (.tuple #[])) y T':=by
 unfold mq at h
 split at h
 ·rename_i i hi
  split at h
  ·rename_i z hz
   obtain ⟨v,g',w',h1,h2⟩:=Em (P:=P) (t:=t) r h (VRs.vals g w _)
   exact ⟨v,g',w',by simpa [Instr.alloc,zeroValue,typeInfo,hi,hz] using h1,h2⟩
  ·cases h
 ·cases h
def Bv (T:VT)(x:TV):Option (TV × VT):=(bR x).bind (sk T)
theorem NP (r:RW g T w){t:TypeId}{x y:TV}{u:Value}{T':VT}(h:Bv T x=some (y,T'))(hx:VR g w x u):Does P g T w (Instr.box t u) y T':=by
 simp only [Bv,bind_eq_some_iff] at h
 obtain ⟨cs,h1,h2⟩:=h
 exact Em r h2 (kT h1 hx)
def bs (cs:List TV)(off:Nat)(new:List TV):List TV:=cs.take off++new++cs.drop (off+new.length)
def kU (P:Program)(T:VT)(t:TypeId)(a x:TV):Option (TV × VT):=match a with
 | .ptr id off=>match T.objs[id]?,bR x,P.info? t with
  |some (.cells cs),some new,some i=>if i.size=new.length∧off+new.length≤cs.length∧new.all fQ then some (.val undef,{T with objs:=T.objs.set id (.cells (bs cs off new))}) else none
  |_,_,_=>none
 |_=>none
def qO (place:Nat→Option (Nat × Nat))(cs:List TV):List (Nat × TV)→Option (List TV)
 |[]=>some cs
 | (i,x)::r=>match place i,bR x with
  |some (off,size),some new=>if new.length=size∧off+new.length≤cs.length then qO place (bs cs off new) r else none
  |_,_=>none
theorem Bw:∀(vs:List Value) (off k:Nat) (cs:Array Value),off+k+vs.length≤cs.size→
  ((vs.zipIdx k).foldl (λ(cs:Array Value) (x:Value × Nat)=>cs.setIfInBounds (off+x.2) x.1) cs).toList=cs.toList.take (off+k)++vs++cs.toList.drop (off+k+vs.length)
 |[],off,k,cs,_=>by simp
 |v::vs,off,k,cs,h=>by
  simp only [length_cons] at h
  have ih:=Bw vs off (k+1) (cs.setIfInBounds (off+k) v) (by simp;omega)
  simp only [List.zipIdx_cons,List.foldl_cons]
  rw [ih]
  have hl:off+k<cs.toList.length:=by simp;omega
  simp only [Array.toList_setIfInBounds]
  rw [show off+(k+1)=off+k+1 by omega,List.take_set,List.take_add_one,List.set_append]
  have h1:(cs.toList.take (off+k)).length=off+k:=by simp;omega
  rw [if_neg (by omega),h1,Nat.sub_self]
  have h2:cs.toList[off+k]?.toList= [cs.toList[off+k]]:=by rw [getElem?_eq_getElem hl];rfl
  rw [h2,List.set_cons_zero,List.drop_set_of_lt (by omega)]
  simp only [length_cons]
  rw [show off+k+1+vs.length=off+k+(vs.length+1) by omega]
  simp
theorem Kx (v:Value)(off:Nat)(cells:Array Value)(h:off+v.cells.size≤cells.size):
  (v.cells.zipIdx.foldl (λcs (c,j)=>cs.setIfInBounds (off+j) c) cells).toList=cells.toList.take off++v.cells.toList++cells.toList.drop (off+v.cells.size):=by
 have:=Bw v.cells.toList off 0 cells (by simpa using h)
 simp only [add_zero,Array.length_toList] at this
 rw [←this,←Array.foldl_toList,Array.toList_zipIdx]
theorem qP {place:Nat→Option (Nat × Nat)}:∀{ps:List (Nat × TV)} {qs:List (Nat × Value)} {cs cs':List TV} {us:Array Value},qO place cs ps=some cs'→VRs g w cs us.toList→qs.length=ps.length→
  (∀(j:Nat) p q,ps[j]?=some p→qs[j]?=some q→q.1=p.1∧VR g w p.2 q.2)→∃us',fill place us qs=some us'∧VRs g w cs' us'.toList
 |[],[],cs,cs',us,h,k,_,_=>by simp [qO] at h;subst h;exact ⟨us,rfl,k⟩
 |[],_::_,_,_,_,_,_,hl,_=>by simp at hl
 |_::_,[],_,_,_,_,_,hl,_=>by simp at hl
 | (i,x)::ps,(i',v)::qs,cs,cs',us,h,k,hl,hr=>by
  obtain ⟨e1,hx⟩:=hr 0 (i,x) (i',v) rfl rfl
  simp only at e1 hx
  subst e1
  unfold qO at h
  split at h
  ·rename_i off size new hp hc
   split at h
   ·rename_i hh
    have kc:=kT hc hx
    have hvl:v.cells.size=new.length:=by have:=kc.1;simpa using this
    have hul:us.size=cs.length:=by have:=k.1;simpa using this
    have hf:=Kx v off us (by omega)
    have k2:VRs g w (bs cs off new) (v.cells.zipIdx.foldl (λcs (c,j)=>cs.setIfInBounds (off+j) c) us).toList:=by
     rw [hf,hvl]
     exact ((k.take off).app kc).app (k.drop _)
    obtain ⟨us',h1,h2⟩:=qP (qs:=qs) h k2 (by simpa using hl) (λj p q hp hq=>hr (j+1) p q (by simpa using hp) (by simpa using hq))
    refine ⟨us',?_,h2⟩
    have n1:¬(v.cells.size≠size∨us.size<off+v.cells.size):=by omega
    rw [fill]
    simp only [hp]
    rw [if_neg (by simpa using n1)]
    exact h1
   ·cases h
  ·cases h
def yC (P:Program)(fs:Array Field):Nat→Option (Nat × Nat):=λi=>match fs[i]? with
 |some f=>match P.info? f.type with
  |some inf=>some (f.offset,inf.size)
  |none=>none
 |none=>none
def wI (P:Program)(t:TypeId)(ps:List (Nat × TV)):Option TV:=match P.underlying t,P.info? t with
 |some (.struct fs),some i=>match i.zero with
  |some z=>if fs.toList.all (λf=>(P.info? f.type).isSome) then (qO (yC P fs) (z.cells.toList.map .val) ps).map .agg else none
  |none=>none
 |some (.array _ e),some i=>match i.zero,P.info? e with
  |some z,some ie=>(qO (λj=>some (j*ie.size,ie.size)) (z.cells.toList.map .val) ps).map .agg
  |_,_=>none
 |_,_=>none
theorem wJ (w:World):∀(fs:List Field),(fs.all λf=>(P.info? f.type).isSome)=true→
  ∃l,(fs.mapM λf=>(do pure (f.offset,←sizeOf f.type):Sem (Nat × Nat))).run P w=.ok l w∧l=fs.map λf=>(f.offset,((P.info? f.type).map (·.size)).getD 0)
 |[],_=>⟨[],by simp,rfl⟩
 |f::fs,h=>by
  simp only [List.all_cons,and_eq_true] at h
  obtain ⟨i,hi⟩:=isSome_iff_exists.1 h.1
  obtain ⟨l,h1,h2⟩:=wJ w fs h.2
  refine ⟨_,?_,rfl⟩
  simp only [List.mapM_cons,run_bind,bH hi,andThen_ok,run_pure,h1]
  simp [h2,hi]
theorem zF {t:TypeId}{ps:List (Nat × TV)}{qs:Array (Nat × Value)}{y:TV}(h:wI P t ps=some y)(hl:qs.toList.length=ps.length)
  (hr:∀(j:Nat) p q,ps[j]?=some p→qs.toList[j]?=some q→q.1=p.1∧VR g w p.2 q.2):∃v,VR g w y v∧∀w',(Instr.build t qs).run P w'=.ok v w':=by
 unfold wI at h
 split at h
 ·rename_i fs i hu hi
  split at h
  ·rename_i z hz
   split at h
   ·rename_i hall
    simp only [map_eq_some_iff] at h
    obtain ⟨cs,h,rfl⟩:=h
    obtain ⟨us',h1,h2⟩:=qP (us:=z.cells) (qs:=qs.toList) h (VRs.vals g w _) hl hr
    refine ⟨.agg us',by simpa using VR.mk_agg h2,λw'=> ?_⟩
    obtain ⟨l,h3,h4⟩:=wJ (P:=P) w' fs.toList hall
    have h5:(fs.mapM λf=>(do pure (f.offset,←sizeOf f.type):Sem (Nat × Nat))).run P w'=.ok l.toArray w':=by
     rw [Array.mapM_eq_mapM_toList]
     simp only [Sem.run_map,h3,andThen_ok]
    have h6:(λx=>l.toArray[x]?)=yC P fs:=by
     funext j
     simp only [List.getElem?_toArray,h4,getElem?_map,yC,getElem?_toList]
     cases hf:fs[j]? with
     |none=>rfl
     |some f=>
      have hm:f∈fs.toList:=by rw [mem_iff_getElem?];exact ⟨j,by simpa using hf⟩
      obtain ⟨inf,hinf⟩:=isSome_iff_exists.1 (all_eq_true.1 hall f hm)
      simp [hinf]
    simp only [Instr.build,run_bind,zeroValue,nO hi,hz,andThen_ok,run_pure,run_underlying hu,h5,h6,h1]
   ·cases h
  ·cases h
 ·rename_i n e i hu hi
  split at h
  ·rename_i z ie hz hie
   simp only [map_eq_some_iff] at h
   obtain ⟨cs,h,rfl⟩:=h
   obtain ⟨us',h1,h2⟩:=qP (us:=z.cells) (qs:=qs.toList) h (VRs.vals g w _) hl hr
   refine ⟨.agg us',by simpa using VR.mk_agg h2,λw'=> ?_⟩
   simp only [Instr.build,run_bind,zeroValue,nO hi,hz,andThen_ok,run_pure,run_underlying hu,bH hie,h1]
  ·cases h
 ·cases h
end
section
variable {P:Program}{g:Gh}{T:VT}{w:World}
def dh (size:Nat):Nat→List TV→List (List TV)
 | 0,_=> []
 |n+1,cs=>cs.take size::dh size n (cs.drop size)
theorem ng (size:Nat):∀(n:Nat) (cs:List TV),(dh size n cs).length=n
 | 0,_=>rfl
 |n+1,cs=>by simp [dh,ng size n]
theorem oS (size:Nat):∀(n:Nat) (cs:List TV),cs.length=n*size→(∀e∈dh size n cs,e.length=size)∧(dh size n cs).flatten=cs
 | 0,cs,h=>by simp at h;subst h;simp [dh]
 |n+1,cs,h=>by
  rw [succ_mul] at h
  obtain ⟨h1,h2⟩:=oS size n (cs.drop size) (by simp;omega)
  refine ⟨λe he=> ?_,by simp [dh,h2]⟩
  simp only [dh,mem_cons] at he
  rcases he with rfl | he
  ·simp;omega
  ·exact h1 e he
def iH (z:Array Value)(n:Nat):List Value:=(List.range n).map (z[· %z.size]!)
def md (P:Program)(t:TypeId)(len:Nat)(ps:List (Nat × TV)):Option TV:=match P.underlying t with
 |some (.slice e)=>match P.info? e with
  |some i=>match i.zero with
   |some z=>match qO (λj=>some (j*i.size,i.size)) ((iH z.cells (len*i.size)).map .val) ps with
    |some cs=>if len*i.size≤16777216∧len≤16777216∧cs.length=len*i.size∧cs.all fQ then some (.vec i.size (dh i.size len cs) .full) else none
    |none=>none
   |none=>none
  |none=>none
 |_=>none
theorem yD (r:RW g T w){t:TypeId}{len:Nat}{ps:List (Nat × TV)}{qs:Array (Nat × Value)}{y:TV}(h:md P t len ps=some y)(hl:qs.toList.length=ps.length)
  (hr:∀(j:Nat) p q,ps[j]?=some p→qs.toList[j]?=some q→q.1=p.1∧VR g w p.2 q.2):Does P g T w (Instr.buildSlice t len qs) y T:=by
 unfold md at h
 split at h
 ·rename_i e hu
  split at h
  ·rename_i i hi
   split at h
   ·rename_i z hz
    split at h
    ·rename_i cs hf
     split at h
     ·rename_i hh
      obtain ⟨h1,h1',h2,h3⟩:=hh
      injection h with h;subst h
      obtain ⟨us',h4,h5⟩:=qP (us:=(iH z.cells (len*i.size)).toArray) (qs:=qs.toList) hf (VRs.vals g w _) hl hr
      obtain ⟨c1,c2⟩:=oS i.size len cs h2
      have hc:=ng i.size len cs
      obtain ⟨g',r',e',hst,htl⟩:=r.newSt us'.toList e
      have ho:=ky h3 h5
      refine ⟨.slice (some ⟨w.heap.size,0,none⟩) len len,g',w.alloc (.cells us' e),?_,?_,by simpa using e',by simpa using r',Same.of_gr r ((Gr.refl w).alloc _)⟩
      ·have n1:¬(len*i.size>2^24):=by omega
       by_cases h0:len*i.size=0
       ·have h4':fill (λj=>some (j*i.size,i.size)) #[] qs.toList=some us':=by rw [h0] at h4;exact h4
        simp only [Instr.buildSlice,run_bind,run_underlying hu,andThen_ok,bH hi,h0,if_true]
        have e0:Array.range 0= #[]:=rfl
        simp [h4',newRow,e0]
       ·have n3:(Array.range (len*i.size)).map (z.cells[· %z.cells.size]!)=(iH z.cells (len*i.size)).toArray:=by
         apply Array.ext'
         simp [iH,toList_map,Array.toList_range]
        simp only [Instr.buildSlice,run_bind,run_underlying hu,andThen_ok,bH hi,n1,if_false,run_pure,h0,zeroValue,nO hi,hz,n3,h4]
        simp [newRow]
      ·have h6:=h5.mono e'
       simp only [toArray_toList] at h6
       refine .mk_vec (us:=us'.toList) hc.symm (le_refl _) (by unfold maxLen;omega) c1 rfl (by rw [c2];exact h6) (λj hj=> ?_) (λj u hu=> ?_) ho
       ·rw [c2] at hj;rw [zero_add];exact hst j (by rw [h5.1];exact hj)
       ·rw [zero_add]
        have:=vJ w us'.toList e j u hu
        simpa using this
     ·cases h
    ·cases h
   ·cases h
  ·cases h
 ·cases h
def jr (size:Nat):TV→Option (List (List TV))
 | .vec sz es _=>if sz=size then some es else none
 | .val (.slice none 0 _)=>some []
 | .val (.string s)=>if size=1 then some (s.data.toList.map λb=> [.val (.int .u8 b.toNat)]) else none
 |_=>none
theorem vL {size:Nat}{tx:TypeId}{x:TV}{u:Value}{es:List (List TV)}(h:jr size x=some es)(hx:VR g w x u)(hk:(∃e',P.underlying tx=some (.slice e'))∨P.underlying tx=some .string):
  ∃news,Src P size tx u es.length news w∧VRs g w es.flatten news∧∀e∈es,e.length=size:=by
 unfold jr at h
 split at h
 ·rename_i sz es' tok
  split at h
  ·rename_i hsz
   injection h with h;subst h hsz
   rcases hx.vec_inv with ⟨rfl,rfl,_⟩ | ⟨b,o,c,us,rfl,h1,h2,h3,h4,h5,h6,h7,h8⟩ | ⟨a,rfl,rfl,_⟩
   ·exact ⟨[],⟨hk,λ_=>rfl,run_firstCells_none w sz 0 0 0,run_firstCells_none w.drew sz 0 0 0,by simp,λ_ h=>by cases h⟩,by simpa using VRs.nil g w,by simp⟩
   ·have hl:us.length=es'.length*sz:=by rw [h5.1,cf h3]
    have hc:∀w':World,(∀a,w'.cell? a=w.cell? a)→(firstCells sz es'.length (.slice (some ⟨b,o,none⟩) es'.length c)).run P w'=.ok us.toArray w':=λw' hw=>by
     have:=run_loadCells_list (P:=P) w' ⟨b,o,none⟩ us (λj v hv=>by rw [Addr.add_none,hw];exact h7 j v hv)
     rw [hl] at this
     simpa [firstCells] using this
    exact ⟨us,⟨hk,λ_=>rfl,hc w (λ_=>rfl),hc w.drew (λ_=>rfl),hl,h8⟩,h5,h3⟩
   ·have hc:∀w':World,(firstCells sz 0 (.slice (some a) 0 0)).run P w'=.ok #[] w':=λw'=>by simp [firstCells,loadCells,loadCellsFrom]
    exact ⟨[],⟨hk,λ_=>rfl,hc w,hc w.drew,by simp,λ_ h=>by cases h⟩,by simpa using VRs.nil g w,by simp⟩
  ·cases h
 ·injection h with h;subst h
  rw [hx.val_inv]
  exact ⟨[],⟨hk,λ_=>rfl,run_firstCells_none w size 0 0 _,run_firstCells_none w.drew size 0 0 _,by simp,λ_ h=>by cases h⟩,by simpa using VRs.nil g w,by simp⟩
 ·rename_i s
  split at h
  ·rename_i hsz
   injection h with h;subst h hsz
   rw [hx.val_inv]
   have hl:(s.data.toList.map λb=> [TV.val (.int .u8 b.toNat)]).length=s.size:=by simp
   rw [hl]
   refine ⟨byteCells s,⟨hk,λ_=>rfl,firstCells_string s w,firstCells_string s w.drew,by simp [byteCells],λu hu=> ?_⟩,?_,?_⟩
   ·obtain ⟨_,_,rfl⟩:=mem_map.1 hu;rfl
   ·have e1:(s.data.toList.map λb=> [TV.val (.int .u8 b.toNat)]).flatten=(byteCells s).map .val:=by
     simp only [byteCells,List.map_map]
     induction s.data.toList with
     |nil=>rfl
     |cons a l ih=>simp only [map_cons,flatten_cons,ih];rfl
    rw [e1]
    exact VRs.vals g w _
   ·simp
  ·cases h
 ·cases h
def cR (T:VT)(size:Nat):TV→Option (List (List TV) × Nat × Nat × Bool × VT)
 | .val (.slice none 0 0)=>some ([],T.tails.length,0,true,{T with tails:=T.tails++ [(0,size,true)]})
 | .vec sz es .full=>if sz=size then some (es,T.tails.length,0,false,{T with tails:=T.tails++ [(0,size,false)]}) else none
 | .vec sz es (.tail k e)=>match T.tails[k]? with
  |some (e',s',bn)=>if sz=size∧e'=e∧s'=size then some (es,k,e,bn,T) else none
  |none=>none
 |_=>none
theorem RW.newTail (r:RW g T w)(size:Nat)(own:Bool):∃g',Evo g w g' w∧RW g' {T with tails:=T.tails++ [(0,size,own)]} w∧g'.tail T.tails.length=some ⟨0,0,0,size,0,0,w.heap.size,own,own⟩:=by
 have hin:∀b o,¬(⟨0,0,0,size,0,0,w.heap.size,own,own⟩:Tl).in b o:=λb o h=>by have:=h.2.2;simp at this
 have hha:∀b,¬(⟨0,0,0,size,0,0,w.heap.size,own,own⟩:Tl).has b:=λb h=>by
  rcases h with ⟨o,h⟩ | ⟨_,h,_⟩
  ·exact hin b o h
  ·simp at h
 have hn:g.tail T.tails.length=none:=r.tout _ (le_refl _)
 exact ⟨_,Evo.setTail (λy hy=>by rw [hn] at hy;cases hy) (λ_=>le_refl _),r.setTail (x:=⟨0,0,0,size,0,0,w.heap.size,own,own⟩) rfl (.inl ⟨rfl,rfl⟩) (λb o h=>absurd h (hin b o)) (λi oi b _ _ _ h=>hha b h) (λj y b _ _ h=>absurd h (hha b))
  (λy hy=>by rw [hn] at hy;cases hy) (λ_=>le_refl _) (λ_ h=>absurd h (by simp)) (λ_ _=>⟨le_refl _,λh=>h⟩) (le_refl _),by simp [Gh.setTail]⟩
theorem HT (r:RW g T w){size k e:Nat}{bn:Bool}{s:TV}{u:Value}{es:List (List TV)}{T1:VT}(h:cR T size s=some (es,k,e,bn,T1))(hs:VR g w s u):
  ∃g',Evo g w g' w∧RW g' T1 w∧VR g' w (.vec size es (.tail k e)) u∧T1.tails[k]?=some (e,size,bn)∧T1.objs=T.objs:=by
 unfold cR at h
 split at h
 ·injection h with h;injection h with e1 h;injection h with e2 h;injection h with e3 h;injection h with e5 e4;subst e1 e2 e3 e4 e5
  obtain ⟨g',h1,h2,h3⟩:=r.newTail size true
  rw [hs.val_inv]
  exact ⟨g',h1,h2,.nil ⟨_,h3,le_refl _,rfl⟩,by simp,rfl⟩
 ·split at h
  ·rename_i sz es' hsz
   subst hsz
   injection h with h;injection h with e1 h;injection h with e2 h;injection h with e3 h;injection h with e5 e4;subst e1 e2 e3 e4 e5
   obtain ⟨g',h1,h2,h3⟩:=r.newTail sz false
   refine ⟨g',h1,h2,?_,by simp,rfl⟩
   rcases (hs.mono h1).vec_inv with ⟨rfl,rfl,_⟩ | ⟨b,o,c,us,rfl,a1,a2,a3,a4,a5,a6,a7,a8⟩ | ⟨a,rfl,rfl,_⟩
   ·exact .nil ⟨_,h3,le_refl _,rfl⟩
   ·exact .mk_vec rfl a1 a2 a3 ⟨_,h3,le_refl _,rfl,λ_ hlt=>by simp only [TokOk] at a4;omega,λ_ h=>by cases h⟩ a5 a6 a7 a8
   ·exact .odd a ⟨_,h3,le_refl _,rfl,λ_ hlt=>absurd hlt (Nat.lt_irrefl 0),λ_ _=>⟨zero_le _,λ_ h=>absurd h (Nat.lt_irrefl 0)⟩⟩
  ·cases h
 ·split at h
  ·rename_i e'' s' bn' hk
   split at h
   ·rename_i hh
    obtain ⟨rfl,rfl,rfl⟩:=hh
    injection h with h;injection h with e1 h;injection h with e2 h;injection h with e3 h;injection h with e5 e4;subst e1 e2 e3 e4 e5
    exact ⟨g,Evo.refl g w,r,hs,hk,rfl⟩
   ·cases h
  ·cases h
 ·cases h
theorem rR (b:Nat):∀(vs:List Value) (o:Nat) (w:World),(w.setCells b o vs).heap.size=w.heap.size
 |[],_,_=>rfl
 |v::r,o,w=>by rw [setCells,rR b r];simp [setCell]
theorem rS (b:Nat):∀(vs:List Value) (o:Nat) (w:World),(w.setCells b o vs).tape=w.tape
 |[],_,_=>rfl
 |v::r,o,w=>by rw [setCells,rS b r];rfl
theorem rU (b:Nat):∀(vs:List Value) (o:Nat) (w:World) (cur:Array Value) (t:TypeId) (fz:Nat × Nat),w.heap[b]?=some (.cells cur t fz)→∃cur',(w.setCells b o vs).heap[b]?=some (.cells cur' t fz)∧cur'.size=cur.size
 |[],_,_,cur,_,_,h=>⟨cur,h,rfl⟩
 |v::r,o,w,cur,t,fz,h=>by
  have h1:(w.setCell ⟨b,o,none⟩ v).heap[b]?=some (.cells (cur.setIfInBounds o v) t fz):=by
   simp only [setCell]
   rw [Array.getElem?_modify,if_pos rfl,h]
   simp
  obtain ⟨cur',h2,h3⟩:=rU b r (o+1) _ _ t fz h1
  exact ⟨cur',h2,by rw [h3];simp⟩
theorem AV (w:World)(b o:Nat)(v:Value)(c:Nat):bI (w.setCell ⟨b,o,none⟩ v) c=bI w c:=by
 unfold bI
 simp only [setCell,Array.getElem?_modify]
 by_cases h:b=c
 ·subst h
  simp only [if_true]
  cases w.heap[b]? with
  |none=>rfl
  |some ob=>cases ob<;>simp
 ·rw [if_neg h]
theorem pV (b:Nat):∀(o:Nat) (vs:List Value) (w:World) (c:Nat),c<w.heap.size→bI (w.setCells b o vs) c=bI w c
 |_,[],_,_,_=>rfl
 |o,v::r,w,c,h=>by
  rw [setCells,pV b (o+1) r _ c (by simpa [setCell] using h),AV]
theorem HU (r:RW g T w){k:Nat}{x:Tl}{p:Nat × Nat × Bool}(hp:T.tails[k]?=some p)(hx:g.tail k=some x)(news:List Value)(hroom:x.f+news.length≤x.lim)(hpos:0<news.length):
  RW g T (w.setCells x.b x.f news)∧Evo g w g (w.setCells x.b x.f news)∧Same g T w (w.setCells x.b x.f news):=by
 obtain ⟨x',q1,q2,q3,q4⟩:=r.tl k p hp
 rw [hx] at q1;injection q1 with q1;subst q1
 have hzin:∀j,j<news.length→x.in x.b (x.f+j):=λj hj=>⟨rfl,by omega,by omega⟩
 have hin0:x.in x.b x.f:=⟨rfl,le_refl _,by omega⟩
 have hlt:x.b<w.heap.size:=by
  obtain ⟨u,hu⟩:=isSome_iff_exists.1 (q4 x.b x.f hin0).1
  exact kQ hu
 have hblk:∀c,c<w.heap.size→c≠x.b→(w.setCells x.b x.f news).heap[c]?=w.heap[c]?:=λc hc hn=>World.heap_setCells_other w x.b x.f news hc hn
 have hcell:∀b o,¬(b=x.b∧x.f≤o∧o<x.f+news.length)→(w.setCells x.b x.f news).cell? ⟨b,o,none⟩=w.cell? ⟨b,o,none⟩:=λb o hn=>
  World.cell?_setCells_out x.b news x.f w ⟨b,o,none⟩ (λhb _=>by
   simp only at hb ⊢
   rcases lt_or_ge o x.f with h1 | h1
   ·exact .inl h1
   ·right
    rcases lt_or_ge o (x.f+news.length) with h2 | h2
    ·exact absurd ⟨hb,h1,h2⟩ hn
    ·exact h2)
 have hsz:(w.setCells x.b x.f news).heap.size=w.heap.size:=rR x.b news x.f w
 have e:Evo g w g (w.setCells x.b x.f news):=by
  refine ⟨World.os_setCells w _ _ _,?_,World.output_setCells w _ _ _,by omega,λ_ _ h=>h,λb o hs=>⟨hs,hcell b o ?_⟩,rfl,λb hb=>hblk b (r.fr b hb) ?_,λ_ _ _ h=>h,λ_ y h=>⟨y,h,.inl rfl,rfl,rfl⟩,(λ_ _ h h'=>nomatch (h.symm.trans h')),λb hb=>pV x.b x.f news w b hb⟩
  ·exact rS x.b news x.f w
  ·rintro ⟨rfl,h1,h2⟩
   exact (q4 x.b o ⟨rfl,h1,by omega⟩).2.2.1 hs
  ·rintro rfl
   exact (q4 x.b x.f hin0).2.2.2 hb
 have sm:Same g T w (w.setCells x.b x.f news):=⟨λb o h=>(e.st b o h).2,λid o b h hl hb=>by
  obtain ⟨b',h1,h2,_⟩:=r.obj id o h hl
  rw [hb] at h1;injection h1 with h1;subst h1
  exact hblk b (h2.lt hl) (by rintro rfl;exact r.tobj id o x.b k x h hl hb hx (.inl ⟨x.f,hin0⟩))⟩
 refine ⟨⟨?_,r.inj,r.out,?_,?_,?_,r.tout,r.tinj,r.tobj,?_,r.own0,λj y hy=>by rw [hsz];exact r.tlo j y hy⟩,e,sm⟩
 rotate_left 4
 ·intro j y hy h1 h2
  obtain ⟨⟨cur,h3,h3'⟩,h4⟩:=r.own j y hy h1 h2
  refine ⟨?_,h4⟩
  by_cases hb:y.b=x.b
  ·rw [hb] at h3 ⊢
   obtain ⟨cur',h5,h6⟩:=rU x.b news x.f w cur _ _ h3
   exact ⟨cur',h5,h6.trans h3'⟩
  ·exact ⟨cur,by rw [hblk y.b (Array.getElem?_eq_some_iff.1 h3).1 hb];exact h3,h3'⟩
 ·intro id o h hl
  obtain ⟨b,h1,h2,h3⟩:=r.obj id o h hl
  refine ⟨b,h1,h2.mono e (hblk b (h2.lt hl) ?_),h3⟩
  rintro rfl
  exact r.tobj id o x.b k x h hl h1 hx (.inl ⟨x.f,hin0⟩)
 ·intro b o hs
  rw [(e.st b o hs).2];exact r.st b o hs
 ·intro b hb;rw [hsz];exact r.fr b hb
 ·intro j p' hj
  obtain ⟨y,a1,a2,a3,a4⟩:=r.tl j p' hj
  refine ⟨y,a1,a2,a3,λb o hi=> ?_⟩
  obtain ⟨b1,b2,b3⟩:=a4 b o hi
  exact ⟨World.isSome_setCells x.b news x.f w ⟨b,o,none⟩ b1,by rw [World.frozen?_setCells];exact b2,b3⟩
end
section
variable {P:Program}{g:Gh}{T:VT}{w:World}
def fD:Option TypeDesc→Bool
 |some (.slice _)=>true
 |some .string=>true
 |_=>false
def ir (P:Program)(T:VT)(t tx:TypeId)(s x:TV):Option (TV × VT):=match P.underlying t with
 |some (.slice e)=>match P.info? e with
  |some i=>match i.zero,cR T i.size s,jr i.size x with
   |some z,some (es,k,n,bn,T1),some es2=>
    if z.cells.size=i.size∧0<i.size∧fD (P.underlying tx)∧(es.length+es2.length)*(i.bytes+1)≤140737488355328 then
     some (.vec i.size (es++es2) (.tail k (n+es2.length)),{T1 with tails:=T1.tails.set k (n+es2.length,i.size,bn)}) else none
   |_,_,_=>none
  |none=>none
 |_=>none
theorem pW {tx:TypeId}(h:fD (P.underlying tx)=true):(∃e',P.underlying tx=some (.slice e'))∨P.underlying tx=some .string:=by
 unfold fD at h
 split at h
 ·exact .inl ⟨_,by assumption⟩
 ·exact .inr (by assumption)
 ·cases h
theorem yE {l:List (Nat × Nat × Bool)}{k:Nat}{p:Nat × Nat × Bool}(h:l[k]?=some p):l.set k p=l:=by
 apply List.ext_getElem?
 intro j
 rw [getElem?_set]
 split
 ·rename_i hj;subst hj;rw [if_pos (List.getElem?_eq_some_iff.1 h).1,h]
 ·rfl
theorem wK (g:Gh)(k:Nat)(x:Tl):(g.setTail k x).tail k=some x:=by simp [Gh.setTail]
theorem jQ {t tx ty e:TypeId}{i:TypeInfo}(ht:P.underlying t=some (.slice e))(hi:P.info? e=some i){a:Option Addr}{n c:Nat}{x:Value}{news:List Value}(hs:Src P i.size tx x 0 news w)(hn:n≤c):
  (append_ #[t,tx] ty #[.slice a n c,x]).run P w=.ok (.slice a n c) w:=by
 have h0:news= []:=List.eq_nil_of_length_eq_zero (by simpa using hs.newsLen)
 subst h0
 have hc:=hs.cells
 rcases hs.kind with ⟨e',hk⟩ | hk<;>cases a<;>simp [append_,run_underlying ht,run_underlying hk,bH hi,hs.len,hn,hc,storeCells]
theorem D3 {t tx ty e:TypeId}{i:TypeInfo}(r:RW g T w)(ht:P.underlying t=some (.slice e))(hi:P.info? e=some i){k n:Nat}{bn:Bool}{es es2:List (List TV)}{b o c:Nat}{us:List Value}{x:Value}{news:List Value}
  (hp:T.tails[k]?=some (n,i.size,bn)) (h1:es.length≤c) (h2:c≤maxLen) (h3:∀e∈es,e.length=i.size) (h4:TokOk g w (.tail k n) i.size es.length b o c) (h5:VRs g w es.flatten us)
  (h6:∀j,j<es.flatten.length→g.st b (o+j)) (h7:∀(j:Nat) v,us[j]?=some v→w.cell? ⟨b,o+j,none⟩=some v) (h8:∀u∈us,u.oneCell'=true)
  (hs:Src P i.size tx x es2.length news w) (k2:VRs g w es2.flatten news) (z2:∀e∈es2,e.length=i.size) (hpos:0<es2.length) (hsz0:0<i.size) (hroom:es.length+es2.length≤c):
  Does P g T w (append_ #[t,tx] ty #[.slice (some ⟨b,o,none⟩) es.length c,x]) (.vec i.size (es++es2) (.tail k (n+es2.length))) {T with tails:=T.tails.set k (n+es2.length,i.size,bn)}:=by
 obtain ⟨y,hy,he,hsz,hh,hoo⟩:=h4
 obtain ⟨y',q1,q2,q3,q4⟩:=r.tl k _ hp
 rw [hy] at q1;injection q1 with q1;subst q1
 simp only at q2 q3
 obtain ⟨q3,q5⟩:=q3
 obtain ⟨b1,b2,b3⟩:=hh q2 (by omega)
 have hm1:(es.length+es2.length)*i.size≤c*i.size:=mul_le_mul_right _ hroom
 rw [add_mul] at hm1
 have hnl:=hs.newsLen
 subst b1
 have hmz:c*y.size=c*i.size:=by rw [q3]
 have hzn:∀j,j<news.length→y.in y.b (o+es.length*i.size+j):=λj hj=>⟨rfl,by omega,by omega⟩
 have hrun:=run_append_room_src (P:=P) w t tx ty e i ht hi y.b o es.length c x es2.length news hs hroom (λj hj=>(q4 _ _ (hzn j hj)).1) (λj hj=>(q4 _ _ (hzn j hj)).2.1)
 have hfl:=cf h3
 have hfl2:=cf z2
 have hnp:0<news.length:=by rw [hnl];exact Nat.mul_pos hpos hsz0
 obtain ⟨r1,e1,sm⟩:=HU r hp hy news (by omega) hnp
 rw [b2] at r1 e1 sm
 have hlt:k<T.tails.length:=(List.getElem?_eq_some_iff.1 hp).1
 have hcn:=World.cell?_setCells_in y.b news (o+es.length*i.size) w (λj hj=>(q4 _ _ (hzn j hj)).1)
 obtain ⟨_,q1',_,_,q4'⟩:=r1.tl k _ hp
 rw [hy] at q1';injection q1' with q1';subst q1'
 have hsub:∀b' o',({y with f:=y.f+news.length,e:=n+es2.length}:Tl).in b' o'→y.in b' o':=λb' o' h=>⟨h.1,by have:=h.2.1;simp at this;omega,h.2.2⟩
 have hy1:y.own=true→0<y.e:=λa1=>by
  rcases eq_zero_or_pos y.e with h0 | h0
  ·have:=(r.own0 k y hy (.inl a1) h0).1;omega
  ·exact h0
 have hsubh:∀b',({y with f:=y.f+news.length,e:=n+es2.length}:Tl).has b'→y.has b':=λb' h=>by
  rcases h with ⟨o',h⟩ | ⟨a1,_,a2⟩
  ·exact .inl ⟨o',hsub b' o' h⟩
  ·exact .inr ⟨a1,hy1 a1,a2⟩
 have r2:=r1.setTail (T':={T with tails:=T.tails.set k (n+es2.length,i.size,bn)}) (k:=k) (x:={y with f:=y.f+news.length,e:=n+es2.length}) rfl (.inr ⟨by simp [q3,q5],hlt⟩) (λb' o' h=>q4' b' o' (hsub b' o' h))
  (λj oj b h1 h2 h3 h4=>r1.tobj j oj b k y h1 h2 h3 hy (hsubh b h4))
  (λj z b hj hz' h1 h2=>hj (r1.tinj j k z y b hz' hy h2 (hsubh b h1)))
  (λz hz'=>by rw [hy] at hz';injection hz' with hz';subst hz';simp;omega) (λh=>by rw [hy] at h;cases h)
  (λa1 _=>by
   have hy0:0<y.e:=by
    rcases eq_zero_or_pos y.e with h0 | h0
    ·have:=(r.own0 k y hy (.inl a1) h0).1;omega
    ·exact h0
   obtain ⟨d1,d2,d3,d4⟩:=r1.own k y hy a1 hy0
   refine ⟨d1,?_,by simp only;omega,d4⟩
   simp only
   rw [add_mul,←q2,d2,hnl,q3])
  (λa1 a2=>by simp only at a2;omega) (r1.tlo k y hy)
 have e2:Evo g (w.setCells y.b (o+es.length*i.size) news) (g.setTail k {y with f:=y.f+news.length,e:=n+es2.length}) (w.setCells y.b (o+es.length*i.size) news):=
  Evo.setTail (λz hz'=>by rw [hy] at hz';injection hz' with hz';subst hz';simp;omega) (λh=>by rw [hy] at h;cases h)
 have hin0:=hzn 0 hnp
 have r3:=r2.addSt (b:=y.b) (S:=λp=>y.f≤p∧p<y.f+news.length) (q4 _ _ hin0).2.2.2 (λid oo h hl hb=>r.tobj id oo y.b k y h hl hb hy (.inl ⟨_,hin0⟩))
  (λj z p hz' hp' hin=>by
   by_cases hj:j=k
   ·subst hj;simp [Gh.setTail] at hz';subst hz';have:=hin.2.1;simp at this;omega
   ·have hz2:g.tail j=some z:=by simpa [Gh.setTail,hj] using hz'
    exact hj (r.tinj j k z y _ hz2 hy (.inl ⟨_,hin⟩) (.inl ⟨p,rfl,hp'.1,by omega⟩)))
  (λp hp'=>by
   have:=hcn (p-(o+es.length*i.size)) (by omega)
   rw [show o+es.length*i.size+(p-(o+es.length*i.size))=p by omega] at this
   rw [this];rfl)
 have e3:=(e1.trans e2).trans (Evo.addSt (w:=w.setCells y.b (o+es.length*i.size) news) (b:=y.b) (S:=λp=>y.f≤p∧p<y.f+news.length) (show ¬(g.setTail k _).fr y.b from (q4 _ _ hin0).2.2.2))
 refine ⟨_,_,_,hrun,?_,e3,r3,sm⟩
 have hlen:us.length=es.length*i.size:=by rw [h5.1,hfl]
 refine .mk_vec (us:=us++news) (by simp) hroom h2 (λe he=>by rcases mem_append.1 he with he | he;exact h3 e he;exact z2 e he)
  ⟨_,wK _ k _,le_refl _,hsz,λ_ _=>⟨rfl,?_,?_⟩,λ_ ho=> ?_⟩ (by rw [flatten_append];exact (h5.app k2).mono e3) (λj hj=> ?_) (λj v hv=> ?_) (λu hu=> ?_)
 ·simp only [add_mul];omega
 ·exact b3
 ·obtain ⟨f1,f2⟩:=hoo q2 ho
  refine ⟨by simp only;omega,λhn _=> ?_⟩
  simp only at hn
  have hy0:0<y.e:=by
   rcases eq_zero_or_pos y.e with h0 | h0
   ·have:=(r.own0 k y hy (.inr ho) h0).1;omega
   ·exact h0
  obtain ⟨g0,_,g2,g3⟩:=f2 (by omega) (by omega)
  exact ⟨g0,rfl,g2,g3⟩
 ·rw [flatten_append,length_append,hfl,hfl2] at hj
  rcases lt_or_ge j (es.length*i.size) with h | h
  ·exact (e3.st _ _ (h6 j (by rw [hfl];exact h))).1
  ·exact .inr ⟨rfl,by omega,by omega⟩
 ·rcases lt_or_ge j us.length with h | h
  ·rw [getElem?_append_left h] at hv
   rw [(e3.st _ _ (h6 j (by rw [hfl];omega))).2];exact h7 j v hv
  ·rw [getElem?_append_right h] at hv
   have h9:=(List.getElem?_eq_some_iff.1 hv)
   have:=hcn (j-us.length) h9.1
   rw [h9.2] at this
   rw [←this];congr 2;omega
 ·rcases mem_append.1 hu with hu | hu
  ·exact h8 u hu
  ·exact hs.one u hu
theorem pF {t tx ty e:TypeId}{i:TypeInfo}{z:Value}(r:RW g T w)(ht:P.underlying t=some (.slice e))(hi:P.info? e=some i)(hz:i.zero=some z)(hzs:z.cells.size=i.size){k n:Nat}{bn:Bool}{es es2:List (List TV)}{a:Option Addr}{c:Nat}{us:List Value}{x:Value}{news:List Value}
  (hp:T.tails[k]?=some (n,i.size,bn)) (h3:∀e∈es,e.length=i.size) (h5:VRs g w es.flatten us) (h8:∀u∈us,u.oneCell'=true)
  (hold:(firstCells i.size es.length (.slice a es.length c)).run P w.drew=.ok us.toArray w.drew)
  (hoo:∀y,g.tail k=some y→y.e=n→y.born=true→es.length≤n∧(es.length=n→0<es.length→y.own=true))
  (hs:Src P i.size tx x es2.length news w) (k2:VRs g w es2.flatten news) (z2:∀e∈es2,e.length=i.size) (hpos:0<es2.length) (hroom:c<es.length+es2.length) (hb:(es.length+es2.length)*(i.bytes+1)≤140737488355328):
  Does P g T w (append_ #[t,tx] ty #[.slice a es.length c,x]) (.vec i.size (es++es2) (.tail k (n+es2.length))) {T with tails:=T.tails.set k (n+es2.length,i.size,bn)}:=by
 obtain ⟨y,hy,q2,q3,q4⟩:=r.tl k _ hp
 simp only at q2 q3
 obtain ⟨q3,q5⟩:=q3
 rw [Nat.mul_add,Nat.mul_one] at hb
 have hrun:=run_append_grow_src (P:=P) w t tx ty e i z ht hi hz a es.length c us hold x es2.length news hs hroom (by omega) (growslice_fits (bytes:=i.bytes) hroom (by omega))
 have hge:=grownCap_ge w (es.length+es2.length) c e
 have hle:=grownCap_le_maxLen w (es.length+es2.length) c e (by unfold maxLen;omega)
 generalize hcap:grownCap w (es.length+es2.length) c e=cap at hrun hge hle
 have hfl:=cf h3
 have hfl2:=cf z2
 have hnl:=hs.newsLen
 have hul:us.length=es.length*i.size:=by rw [h5.1,hfl]
 have hgr:Gr w (w.drew.alloc (.cells ((us++news).toArray++zeroCells z.cells (cap-(es.length+es2.length))) e)):=(Gr.refl w).drew.alloc _
 have hnew:(w.drew.alloc (.cells ((us++news).toArray++zeroCells z.cells (cap-(es.length+es2.length))) e)).heap[w.heap.size]?=some (.cells ((us++news).toArray++zeroCells z.cells (cap-(es.length+es2.length))) e):=heap_alloc_new w.drew _
 have hxs:((us++news).toArray++zeroCells z.cells (cap-(es.length+es2.length))).size=cap*i.size:=by
  simp only [Array.size_append,List.size_toArray,length_append,size_zeroCells,hul,hnl,hzs,sub_mul,add_mul]
  have:(es.length+es2.length)*i.size≤cap*i.size:=mul_le_mul_right _ hge
  rw [add_mul] at this
  omega
 have hpre:∀(j:Nat) v,(us++news)[j]?=some v→((us++news).toArray++zeroCells z.cells (cap-(es.length+es2.length)))[j]?=some v:=λj v hv=>by
  have hj:=(List.getElem?_eq_some_iff.1 hv).1
  rw [Array.getElem?_append_left (by simpa using hj)]
  simpa using hv
 generalize ((us++news).toArray++zeroCells z.cells (cap-(es.length+es2.length)))=xs at*
 generalize w.drew.alloc (.cells xs e)=w' at*
 have r1:=r.gr hgr
 have e1:=Evo.of_gr r hgr
 have f:=r.fresh (le_refl w.heap.size)
 have hlt:k<T.tails.length:=(List.getElem?_eq_some_iff.1 hp).1
 have hcell:∀j,w'.cell? ⟨w.heap.size,j,none⟩=xs[j]?:=λj=>by simp [cell?,hnew]
 have hfrz:∀j,w'.frozen? ⟨w.heap.size,j,none⟩=false:=λj=>by simp [frozen?,hnew]
 have hgrow:∀z',g.tail k=some z'→z'.e<n+es2.length∧i.size=z'.size∧y.lo=z'.lo:=λz' hz'=>by rw [hy] at hz';injection hz' with hz';subst hz';exact ⟨by omega,q3.symm,rfl⟩
 have r2:=r1.setTail (T':={T with tails:=T.tails.set k (n+es2.length,i.size,bn)}) (k:=k) (x:=⟨w.heap.size,(es.length+es2.length)*i.size,cap*i.size,i.size,n+es2.length,e,y.lo,y.own&&decide (es.length=n),y.born⟩) rfl (.inr ⟨by simp [q5],hlt⟩)
  (λb o h=>by
   obtain ⟨rfl,h1,h2⟩:=h
   simp only at h1 h2
   refine ⟨?_,hfrz o,f.st o,f.fr⟩
   rw [hcell,Array.getElem?_eq_getElem (by omega)];rfl)
  (λj oj b h1 h2 h3 h4=>f.obj j oj h1 h2 (by
   rw [h3]
   rcases h4 with ⟨o,h4⟩ | ⟨_,_,h4⟩
   ·exact congrArg some h4.1.symm
   ·exact congrArg some h4.symm))
  (λj z' b hj hz' h1 h2=>by
   have:b=w.heap.size:=by
    rcases h1 with ⟨o,h1⟩ | ⟨_,_,h1⟩
    ·exact h1.1.symm
    ·exact h1.symm
   subst this
   exact f.tl j z' hz' h2) hgrow (λh=>by rw [hy] at h;cases h)
  (λa1 _=>by
   simp only [and_eq_true,decide_eq_true_eq] at a1
   refine ⟨⟨xs,hnew,hxs⟩,by simp only [a1.2],mul_le_mul_right _ hge,r.tlo k y hy,f.fr⟩)
  (λ_ a2=>by simp only at a2;omega) (le_trans (r.tlo k y hy) hgr.size)
 have r3:=r2.addSt (b:=w.heap.size) (S:=λp=>p<(es.length+es2.length)*i.size) f.fr (λid oo h hl=>f.obj id oo h hl)
  (λj z' p hz' hp' hin=>by
   by_cases hj:j=k
   ·subst hj;simp [Gh.setTail] at hz';subst hz';have:=hin.2.1;simp at this;omega
   ·have hz2:g.tail j=some z':=by simpa [Gh.setTail,hj] using hz'
    exact f.tl j z' hz2 (.inl ⟨p,hin⟩))
  (λp hp'=>by
   have:(es.length+es2.length)*i.size≤cap*i.size:=mul_le_mul_right _ hge
   rw [hcell,Array.getElem?_eq_getElem (by omega)];rfl)
 have e3:=(e1.trans (Evo.setTail (w:=w') (x:=⟨w.heap.size,(es.length+es2.length)*i.size,cap*i.size,i.size,n+es2.length,e,y.lo,y.own&&decide (es.length=n),y.born⟩) hgrow (λh=>by rw [hy] at h;cases h))).trans
  (Evo.addSt (w:=w') (b:=w.heap.size) (S:=λp=>p<(es.length+es2.length)*i.size) (show ¬(g.setTail k _).fr w.heap.size from f.fr))
 refine ⟨_,_,_,hrun,?_,e3,r3,Same.of_gr r hgr⟩
 refine .mk_vec (us:=us++news) (by simp) hge hle (λe he=>by rcases mem_append.1 he with he | he;exact h3 e he;exact z2 e he)
  ⟨_,wK _ k _,le_refl _,rfl,λ_ _=>⟨rfl,by simp,by simp⟩,λ_ ho=>by
   obtain ⟨f1,f2⟩:=hoo y hy q2 ho
   refine ⟨by simp only;omega,λhn' _=>⟨?_,rfl,rfl,rfl⟩⟩
   simp only at hn'
   have hel:es.length=n:=by omega
   simp only [and_eq_true,decide_eq_true_eq]
   refine ⟨?_,hel⟩
   rcases eq_zero_or_pos es.length with h0 | h0
   ·exact (r.own0 k y hy (.inr ho) (by omega)).2 ho
   ·exact f2 hel h0⟩ (by rw [flatten_append];exact (h5.app k2).mono e3) (λj hj=> ?_) (λj v hv=> ?_) (λu hu=> ?_)
 ·rw [flatten_append,length_append,hfl,hfl2] at hj
  exact .inr ⟨rfl,by rw [zero_add,add_mul];exact hj⟩
 ·rw [zero_add,hcell];exact hpre j v hv
 ·rcases mem_append.1 hu with hu | hu
  ·exact h8 u hu
  ·exact hs.one u hu
theorem wL (r:RW g T w){t tx ty:TypeId}{s x y:TV}{us ux:Value}{T':VT}(h:ir P T t tx s x=some (y,T'))(hs:VR g w s us)(hx:VR g w x ux):Does P g T w (append_ #[t,tx] ty #[us,ux]) y T':=by
 unfold ir at h
 split at h
 ·rename_i e ht
  split at h
  ·rename_i i hi
   split at h
   ·rename_i z es k n bn T1 es2 hz ha hsrc
    split at h
    ·rename_i hh
     obtain ⟨hzs,hsz0,hsl,hb⟩:=hh
     injection h with h;injection h with e1 e2;subst e1 e2
     obtain ⟨g1,e1,r1,k1,hp,hob⟩:=HT r ha hs
     obtain ⟨news,src,k2,z2⟩:=vL hsrc (hx.mono e1) (pW hsl)
     suffices hd:Does P g1 T1 w (append_ #[t,tx] ty #[us,ux]) (.vec i.size (es++es2) (.tail k (n+es2.length))) {T1 with tails:=T1.tails.set k (n+es2.length,i.size,bn)} by
      obtain ⟨v,g',w',h1,h2,h3,h4,h5⟩:=hd
      exact ⟨v,g',w',h1,h2,e1.trans h3,h4,⟨λb o h=>h5.st b o (e1.st b o h).1,λid o b h hl hb=>h5.obj id o b (by rw [hob];exact h) hl (e1.obj id b hb)⟩⟩
     rcases eq_zero_or_pos es2.length with h0 | hpos
     ·have:es2= []:=List.eq_nil_of_length_eq_zero h0
      subst this
      have eT:T1.tails.set k (n+0,i.size,bn)=T1.tails:=yE hp
      simp only [List.append_nil,length_nil,add_zero] at eT ⊢
      rw [eT]
      rcases k1.vec_inv with ⟨rfl,rfl,_⟩ | ⟨b,o,c,vs,rfl,a1,_⟩ | ⟨a,rfl,rfl,_⟩
      ·exact ⟨_,g1,w,jQ ht hi src (le_refl _),k1,Evo.refl _ _,r1,Same.refl _ _ _⟩
      ·exact ⟨_,g1,w,jQ ht hi src a1,k1,Evo.refl _ _,r1,Same.refl _ _ _⟩
      ·exact ⟨_,g1,w,jQ ht hi src (le_refl _),k1,Evo.refl _ _,r1,Same.refl _ _ _⟩
     ·rcases k1.vec_inv with ⟨rfl,rfl,_⟩ | ⟨b,o,c,vs,rfl,a1,a2,a3,a4,a5,a6,a7,a8⟩ | ⟨a,rfl,rfl,_⟩
      rotate_left 2
      ·exact pF (es:= []) (us:= []) (a:=some a) (c:=0) r1 ht hi hz hzs hp (by simp) (by simpa using VRs.nil _ _) (by simp) (by simp [firstCells,loadCells,loadCellsFrom]) (λ_ _ _ _=>⟨zero_le _,λ_ h=>by simp at h⟩) src k2 z2 hpos (by simpa using hpos) hb
      ·exact pF (es:= []) (us:= []) r1 ht hi hz hzs hp (by simp) (by simpa using VRs.nil _ _) (by simp) (run_firstCells_none w.drew i.size 0 0 0) (λ_ _ _ _=>⟨zero_le _,λ_ h=>by simp at h⟩) src k2 z2 hpos (by simpa using hpos) hb
      ·rcases lt_or_ge c (es.length+es2.length) with hc | hc
       ·refine pF r1 ht hi hz hzs hp a3 a5 a8 ?_ (λy hy h1 h2=>by
         obtain ⟨x',d1,_,_,_,d5⟩:=a4
         rw [hy] at d1;injection d1 with d1;subst d1
         obtain ⟨d6,d7⟩:=d5 h1 h2
         exact ⟨by omega,λd8 d9=>(d7 (by omega) d9).1⟩) src k2 z2 hpos hc hb
        have hl:vs.length=es.length*i.size:=by rw [a5.1,cf a3]
        have:=run_loadCells_list (P:=P) w.drew ⟨b,o,none⟩ vs (λj v hv=>by rw [Addr.add_none];exact a7 j v hv)
        rw [hl] at this
        simpa [firstCells] using this
       ·exact D3 r1 ht hi hp a1 a2 a3 a4 a5 a6 a7 a8 src k2 z2 hpos hsz0 hc
    ·cases h
   ·cases h
  ·cases h
 ·cases h
end
def Tok.ren (f h:Nat→Option Nat):Tok→Tok
 | .none=>.none
 | .full=>.none
 | .live=>.live
 | .tail k e=>match h k with
  |Option.some k'=>.tail k' e
  |Option.none=>.none
 | .past id off=>match f id with
  |Option.some i=>.past i off
  |Option.none=>.live
 | .arg m=>.arg m
mutual
def TV.ren (f h:Nat→Option Nat):TV→TV
 | .val v=>.val v
 | .ptr id off=>match f id with
  |some i=>.ptr i off
  |none=>.dead
 | .vec s es t=>.vec s (br f h es) (t.ren f h)
 | .elt cs=>.elt (aw f h cs)
 | .sl id off n c=>match f id with
  |some i=>.sl i off n c
  |none=>.dead
 | .agg cs=>.agg (aw f h cs)
 | .tup cs=>.tup (aw f h cs)
 | .fn fn a b=>.fn fn (aw f h a) (aw f h b)
 | .ifc t v=>.ifc t (v.ren f h)
 | .row s id off n=>match f id with
  |some i=>.row s i off n
  |none=>.dead
 | .map id=>match f id with
  |some i=>.map i
  |none=>.dead
 | .yld id=>match f id with
  |some i=>.yld i
  |none=>.dead
 | .dead=>.dead
def aw (f h:Nat→Option Nat):List TV→List TV
 |[]=> []
 |x::r=>x.ren f h::aw f h r
def br (f h:Nat→Option Nat):List (List TV)→List (List TV)
 |[]=> []
 |x::r=>aw f h x::br f h r
end
theorem fZ (f h:Nat→Option Nat):∀l,aw f h l=l.map (TV.ren f h)
 |[]=>rfl
 |x::r=>by rw [aw,fZ f h r];rfl
theorem sn (f h:Nat→Option Nat):∀l,br f h l=l.map (List.map (TV.ren f h))
 |[]=>rfl
 |x::r=>by rw [br,sn f h r,fZ];rfl
theorem zG (f h:Nat→Option Nat)(l:List Value):aw f h (l.map .val)=l.map .val:=by
 induction l with
 |nil=>rfl
 |cons a l ih=>rw [map_cons,aw,ih];rfl
def VO.ren (f h:Nat→Option Nat):VO→VO
 | .cells cs=>.cells (aw f h cs)
 | .row cs=>.row (aw f h cs)
 | .map sh look es ck=>.map sh (λk=>(look k).map (TV.ren f h)) (es.map λe=>(e.1,e.2.1.ren f h,e.2.2)) ck
 | .iter m since seen stepped=>.iter (m.ren f h) since seen stepped
 | .siter s pos=>.siter s pos
 | .loop st pend σ ps asg body=>.loop st pend (aw f h σ) ps asg body
 | .defd=>.defd
 | .gone=>.gone
structure rV (g g':Gh) (f h:Nat→Option Nat):Prop where
 obj:∀i i' b,f i=some i'→g.obj i=some b→g'.obj i'=some b
 tail:∀k k' x,h k=some k'→g.tail k=some x→g'.tail k'=some x
 st:∀b o,g.st b o→g'.st b o
section
variable {g g':Gh}{w:World}{f h:Nat→Option Nat}
theorem nQ {cs:List TV}{us:List Value}(ih:∀(j:Nat) x u,cs[j]?=some x→us[j]?=some u→VR g' w (x.ren f h) u)(j:Nat)(x:TV)(u:Value)(hx:(aw f h cs)[j]?=some x)(hu:us[j]?=some u):VR g' w x u:=by
 rw [fZ,getElem?_map] at hx
 cases hc:cs[j]? with
 |none=>rw [hc] at hx;cases hx
 |some y=>rw [hc] at hx;simp at hx;subst hx;exact ih j y u hc hu
theorem TokOk.ren (k:rV g g' f h){tok:Tok}{size n b o c:Nat}(ht:TokOk g w tok size n b o c):TokOk g' w (tok.ren f h) size n b o c:=by
 cases tok with
 |none=>trivial
 |live=>trivial
 |full=>trivial
 |tail j e=>
  obtain ⟨x,h1,h2⟩:=ht
  simp only [Tok.ren]
  cases hj:h j with
  |none=>trivial
  |some j'=>exact ⟨x,k.tail j j' x hj h1,h2⟩
 |past id off=>
  simp only [Tok.ren]
  cases hj:f id with
  |none=>trivial
  |some i=>exact λhlt=>⟨k.obj _ _ _ hj (ht hlt).1,(ht hlt).2⟩
 |arg m=>exact ht
theorem NilTok.ren (k:rV g g' f h){tok:Tok}{size:Nat}(ht:NilTok g tok size):NilTok g' (tok.ren f h) size:=by
 cases tok with
 |none=>trivial
 |live=>exact ht
 |full=>trivial
 |tail j e=>
  obtain ⟨x,h1,h2⟩:=ht
  simp only [Tok.ren]
  cases hj:h j with
  |none=>trivial
  |some j'=>exact ⟨x,k.tail j j' x hj h1,h2⟩
 |past id off=>exact ht.elim
 |arg m=>trivial
theorem rW (f h:Nat→Option Nat):∀es:List (List TV),(br f h es).flatten=aw f h es.flatten
 |[]=>rfl
 |e::es=>by rw [br,flatten_cons,flatten_cons,rW f h es];simp [fZ]
theorem Bx (f h:Nat→Option Nat)(es:List (List TV)):(br f h es).length=es.length:=by rw [sn];simp
theorem dc (f h:Nat→Option Nat)(es:List TV):(aw f h es).length=es.length:=by rw [fZ];simp
theorem VR.ren (k:rV g g' f h){x:TV}{u:Value}(hx:VR g w x u):VR g' w (x.ren f h) u:=by
  induction hx with
  |val v=>exact .val v
  |dead v=>exact .dead v
  | @ptr id off b hb=>
    simp only [TV.ren]
    cases hj:f id with
    |none=>exact .dead _
    |some j=>exact .ptr (k.obj _ _ _ hj hb)
  | @sl id off n c b hb=>
    simp only [TV.ren]
    cases hj:f id with
    |none=>exact .dead _
    |some j=>exact .sl (k.obj _ _ _ hj hb)
  | @yld id b hb=>
    simp only [TV.ren]
    cases hj:f id with
    |none=>exact .dead _
    |some j=>exact .yld (k.obj _ _ _ hj hb)
  | @row size id off n b c hb h2 h3 h4 h5=>
    simp only [TV.ren]
    cases hj:f id with
    |none=>exact .dead _
    |some j=>exact .row (k.obj _ _ _ hj hb) h2 h3 h4 h5
  | @map id b hb=>
    simp only [TV.ren]
    cases hj:f id with
    |none=>exact .dead _
    |some j=>exact .map (k.obj _ _ _ hj hb)
  |nil ht=>exact .nil (ht.ren k)
  |odd a ht=>exact .odd a (ht.ren k)
  | @vec size es tok b o c us hn hc hz ht hl h1 hs hw _ ih=>
    simp only [TV.ren]
    have hfl:=rW f h es
    have hln:=Bx f h es
    exact .mk_vec hln.symm hn hc (λe he=>by rw [sn] at he;obtain ⟨e0,h2,rfl⟩:=mem_map.1 he;rw [length_map];exact hz e0 h2) (ht.ren k) ⟨by rw [hfl,dc];exact hl,by rw [hfl];exact nQ ih⟩
      (λj hj=>k.st _ _ (hs j (by rw [hfl,dc] at hj;exact hj))) hw h1
  |elt hl h1 hs hw _ ih=>exact .mk_elt ⟨by rw [dc];exact hl,nQ ih⟩ (λj hj=>k.st _ _ (hs j (by rw [dc] at hj;exact hj))) hw h1
  |agg hl _ ih=>exact .agg (by rw [dc];exact hl) (nQ ih)
  |tup hl _ ih=>exact .tup (by rw [dc];exact hl) (nQ ih)
  |fn hl _ hl2 _ ih ih2=>exact .fn (by rw [dc];exact hl) (nQ ih) (by rw [dc];exact hl2) (nQ ih2)
  |ifc _ ih=>exact .ifc ih
theorem VRs.ren (k:rV g g' f h){xs:List TV}{us:List Value}(hx:VRs g w xs us):VRs g' w (aw f h xs) us:=
 ⟨by rw [dc];exact hx.1,nQ λj x u h1 h2=>(hx.2 j x u h1 h2).ren k⟩
theorem OR.ren (k:rV g g' f h){b:Nat}{o:VO}(ho:OR g w b o):OR g' w b (o.ren f h):=by
 cases o with
 |cells cs=>obtain ⟨us,t,h1,h2,h3⟩:=ho;exact ⟨us,t,h1,h2.ren k,h3⟩
 |row cs=>obtain ⟨us,t,h1,h2,h3,h4⟩:=ho;exact ⟨us,t,h1,by rw [dc];exact h2,by rw [dc];exact h3.ren k,by rw [dc];exact h4⟩
 |map sh look es ck=>
  obtain ⟨ms,h1,h2,h3,h4,h5,h6,h7⟩:=ho
  refine ⟨ms,h1,by simpa [comp_def] using h2,?_,by simpa [comp_def] using h4,?_,by simpa [comp_def] using h6,?_⟩
  ·have:=h3.ren k
   rw [fZ] at this
   simpa [comp_def] using this
  ·intro e he
   obtain ⟨e',h8,rfl⟩:=mem_map.1 he
   exact h5 e' h8
  ·intro key hk
   simp only [h7 key hk,Bp]
 |iter m since seen stepped=>obtain ⟨mb,h1,h2⟩:=ho;exact ⟨mb,h1,h2.ren k⟩
 |siter s pos=>exact ho
 |loop st pend σ ps asg body=>obtain ⟨us,fn,db,h1,h2⟩:=ho;exact ⟨us,fn,db,h1,h2.ren k⟩
 |defd=>exact ho
 |gone=>trivial
theorem VO.ren_live (f h:Nat→Option Nat)(o:VO):(o.ren f h).live=o.live:=by cases o<;>rfl
end
def bJ {α:Type}:List α→List Nat→List α→List α
 |l,[],r=>l++r
 |l,i::is,x::r=>bJ (l.set i x) is r
 |l,_::_,[]=>l
theorem mf {α:Type}:∀(is:List Nat) (l r:List α),is.Nodup→(∀i∈is,i<l.length)→is.length≤r.length→
  (bJ l is r).length=l.length+(r.length-is.length)∧(∀id,id<l.length→id∉is→(bJ l is r)[id]?=l[id]?)∧(∀(j:Nat) i,is[j]?=some i→(bJ l is r)[i]?=r[j]?)∧
   (∀d,(bJ l is r)[l.length+d]?=r[is.length+d]?)
 |[],l,r,_,_,_=>⟨by simp [bJ],λid hid _=>by simp [bJ,getElem?_append_left hid],λj i h=>by simp at h,λd=>by simp only [bJ];rw [getElem?_append_right (by omega)];simp⟩
 |i::is,l,[],_,_,h=>by simp at h
 |i::is,l,x::r,hn,hi,h=>by
  have hn':=List.nodup_cons.1 hn
  obtain ⟨h1,h2,h3,h4⟩:=mf is (l.set i x) r hn'.2 (λj hj=>by simpa using hi j (mem_cons_of_mem _ hj)) (by simpa using h)
  have hil:=hi i mem_cons_self
  simp only [List.length_set] at h1 h2 h4
  refine ⟨by simp [bJ,h1],λid hid hm=> ?_,λj i' hj=> ?_,λd=> ?_⟩
  ·simp only [bJ]
   simp only [mem_cons,not_or] at hm
   rw [h2 id hid hm.2,getElem?_set,if_neg (λe=>hm.1 e.symm)]
  ·simp only [bJ]
   cases j with
   |zero=>
    simp at hj;subst hj
    rw [h2 i hil hn'.1,getElem?_set,if_pos rfl,if_pos hil];rfl
   |succ j=>simpa using h3 j i' (by simpa using hj)
  ·simp only [bJ,length_cons]
   rw [h4 d]
   rw [show is.length+1+d=(is.length+d)+1 by omega,List.getElem?_cons_succ]
def aL (is:List Nat)(i:Nat):Option Nat:=is.idxOf? i
def aJ (n:Nat)(is:List Nat)(j:Nat):Option Nat:=if j<is.length then is[j]? else some (n+(j-is.length))
def VT.give (T:VT)(is ks:List Nat):VT:=⟨is.map λi=>((T.objs[i]?).getD .gone).ren (aL is) (aL ks),ks.map λk=>(T.tails[k]?).getD (0,0,false)⟩
def VT.back (T:VT)(is ks:List Nat)(T':VT):VT:=
 ⟨bJ T.objs is (T'.objs.map (VO.ren (aJ T.objs.length is) (aJ T.tails.length ks))),bJ T.tails ks T'.tails⟩
theorem jR {is:List Nat}{i j:Nat}(h:aL is i=some j):is[j]?=some i:=by
 unfold aL at h
 rw [List.idxOf?_eq_some_iff] at h
 obtain ⟨h1,h2,_⟩:=h
 rw [getElem?_eq_getElem h1,h2]
theorem qQ {n:Nat}{is:List Nat}{j i:Nat}(h:is[j]?=some i):aJ n is j=some i:=by
 unfold aJ;rw [if_pos (List.getElem?_eq_some_iff.1 h).1,h]
theorem lB {is:List Nat}(hn:is.Nodup){j k i:Nat}(h1:is[j]?=some i)(h2:is[k]?=some i):j=k:=by
 obtain ⟨a,a2⟩:=List.getElem?_eq_some_iff.1 h1
 obtain ⟨c,c2⟩:=List.getElem?_eq_some_iff.1 h2
 have hn':=List.pairwise_iff_getElem.1 hn
 rcases Nat.lt_trichotomy j k with h | h | h
 ·exact absurd (a2.trans c2.symm) (hn' j k a c h)
 ·exact h
 ·exact absurd (c2.trans a2.symm) (hn' k j c a h)
section
variable {P:Program}
def Gh.sub (g:Gh)(T:VT)(is ks:List Nat):Gh where
 obj j:=(is[j]?).bind g.obj
 st:=g.st
 fr b:=g.fr b∨(∃(id:Nat) (o:VO),T.objs[id]?=some o∧o.live=true∧id∉is∧g.obj id=some b)∨(∃(k:Nat) (x:Tl),k∉ks∧g.tail k=some x∧x.has b)
 tail j:=(ks[j]?).bind g.tail
theorem pX {g:Gh}{T:VT}{w:World}(r:RW g T w){k:Nat}{x:Tl}(h:g.tail k=some x):k<T.tails.length:=by
 rcases lt_or_ge k T.tails.length with h1 | h1
 ·exact h1
 ·rw [r.tout k h1] at h;cases h
theorem By {g:Gh}{T:VT}{w:World}(r:RW g T w){k b:Nat}(h:g.obj k=some b):k<T.objs.length:=by
 rcases lt_or_ge k T.objs.length with h1 | h1
 ·exact h1
 ·rw [r.out k h1] at h;cases h
theorem yF (g:Gh)(T:VT)(is ks:List Nat):rV g (g.sub T is ks) (aL is) (aL ks) where
 obj i i' b h1 h2:=by simp [Gh.sub,jR h1,h2]
 tail k k' x h1 h2:=by simp [Gh.sub,jR h1,h2]
 st _ _ h:=h
theorem RW.give {g:Gh}{T:VT}{w:World}(r:RW g T w){is ks:List Nat}(hi:is.Nodup)(hk:ks.Nodup)(hil:∀i∈is,i<T.objs.length)(hkl:∀k∈ks,k<T.tails.length):
  RW (g.sub T is ks) (T.give is ks) w:=by
 have k:=yF g T is ks
 have hobj:∀(j:Nat) o,(T.give is ks).objs[j]?=some o→o.live=true→∃i o0,is[j]?=some i∧T.objs[i]?=some o0∧o0.live=true∧o=o0.ren (aL is) (aL ks):=by
  intro j o h hl
  simp only [VT.give,getElem?_map,map_eq_some_iff] at h
  obtain ⟨i,h1,rfl⟩:=h
  rw [VO.ren_live] at hl
  cases h2:T.objs[i]? with
  |none=>rw [h2] at hl;cases hl
  |some o0=>rw [h2] at hl;exact ⟨i,o0,h1,h2,hl,by simp⟩
 have hsub:∀(j:Nat) x,(g.sub T is ks).tail j=some x→∃k0,ks[j]?=some k0∧g.tail k0=some x:=λj x h=>by simpa [Gh.sub,bind_eq_some_iff] using h
 have htfr:∀(j:Nat) k0 x b,ks[j]?=some k0→g.tail k0=some x→x.has b→¬g.fr b→¬(g.sub T is ks).fr b:=λj k0 x b h1 h2 h3 h4 hf=>by
  rcases hf with hf | ⟨id,o',a1,a2,a3,a4⟩ | ⟨k',y,a1,a2,a3⟩
  ·exact h4 hf
  ·exact r.tobj id o' b k0 x a1 a2 a4 h2 h3
  ·have:=r.tinj k' k0 y x b a2 h2 a3 h3
   subst this
   exact a1 (mem_of_getElem? h1)
 refine ⟨?_,?_,?_,r.st,?_,?_,?_,?_,?_,?_,?_,?_⟩
 ·intro j o h hl
  obtain ⟨i,o0,h1,h2,h3,rfl⟩:=hobj j o h hl
  obtain ⟨b,h4,h5,h6,h7⟩:=r.obj i o0 h2 h3
  refine ⟨b,by simp [Gh.sub,h1,h4],h5.ren k,?_,h7⟩
  rintro (hf | ⟨id,o',a1,a2,a3,a4⟩ | ⟨k',x,a1,a2,a3⟩)
  ·exact h6 hf
  ·have:=r.inj id i o' o0 b a1 a2 h2 h3 a4 h4
   subst this
   exact a3 (mem_of_getElem? h1)
  ·exact r.tobj i o0 b k' x h2 h3 h4 a2 a3
 ·intro i j oi oj b h1 l1 h2 l2 b1 b2
  obtain ⟨i0,o1,a1,a2,a3,rfl⟩:=hobj i oi h1 l1
  obtain ⟨j0,o2,c1,c2,c3,rfl⟩:=hobj j oj h2 l2
  simp only [Gh.sub,a1,c1,Option.bind_some] at b1 b2
  have:=r.inj i0 j0 o1 o2 b a2 a3 c2 c3 b1 b2
  subst this
  exact lB hi a1 c1
 ·intro id hid
  simp only [VT.give,length_map] at hid
  simp [Gh.sub,getElem?_eq_none hid]
 ·rintro b (hf | ⟨id,o',a1,a2,a3,a4⟩ | ⟨k',x,a1,a2,a3⟩)
  ·exact r.fr b hf
  ·obtain ⟨b',h1,h2,_⟩:=r.obj id o' a1 a2
   rw [a4] at h1;injection h1 with h1;subst h1
   exact h2.lt a2
  ·rcases a3 with ⟨o',a3⟩ | ⟨b1,b2,rfl⟩
   ·obtain ⟨x',h1,_,_,h2⟩:=r.tl k' _ (getElem?_eq_getElem (pX r a2))
    rw [a2] at h1;injection h1 with h1;subst h1
    obtain ⟨u,hu⟩:=isSome_iff_exists.1 (h2 b o' a3).1
    exact kQ hu
   ·obtain ⟨⟨cur,h3,_⟩,_⟩:=r.own k' x a2 b1 b2
    exact (Array.getElem?_eq_some_iff.1 h3).1
 ·intro j p h
  simp only [VT.give,getElem?_map,map_eq_some_iff] at h
  obtain ⟨k0,h1,rfl⟩:=h
  have hlt:=hkl k0 (mem_of_getElem? h1)
  obtain ⟨x,h2,h3,h4,h5⟩:=r.tl k0 _ (getElem?_eq_getElem hlt)
  refine ⟨x,by simp [Gh.sub,h1,h2],?_,?_,λb o hin=> ?_⟩
  ·rw [getElem?_eq_getElem hlt];exact h3
  ·rw [getElem?_eq_getElem hlt];exact h4
  ·obtain ⟨c1,c2,c3,c4⟩:=h5 b o hin
   exact ⟨c1,c2,c3,htfr j k0 x b h1 h2 (.inl ⟨o,hin⟩) c4⟩
 ·intro j hj
  simp only [VT.give,length_map] at hj
  simp [Gh.sub,getElem?_eq_none hj]
 ·intro i j x y b h1 h2 i1 i2
  obtain ⟨i0,a1,a2⟩:=hsub i x h1
  obtain ⟨j0,c1,c2⟩:=hsub j y h2
  have:=r.tinj i0 j0 x y b a2 c2 i1 i2
  subst this
  exact lB hk a1 c1
 ·intro i oi b j x h1 l1 b1 hx hin
  obtain ⟨i0,o1,a1,a2,a3,rfl⟩:=hobj i oi h1 l1
  obtain ⟨j0,c1,c2⟩:=hsub j x hx
  simp only [Gh.sub,a1,Option.bind_some] at b1
  exact r.tobj i0 o1 b j0 x a2 a3 b1 c2 hin
 ·intro j x hx d1 d2
  obtain ⟨j0,c1,c2⟩:=hsub j x hx
  obtain ⟨e1,e2,e3,e4,e5⟩:=r.own j0 x c2 d1 d2
  exact ⟨e1,e2,e3,e4,htfr j j0 x x.b c1 c2 (.inr ⟨d1,d2,rfl⟩) e5⟩
 ·intro j x hx
  obtain ⟨j0,c1,c2⟩:=hsub j x hx
  exact r.own0 j0 x c2
 ·intro j x hx
  obtain ⟨j0,c1,c2⟩:=hsub j x hx
  exact r.tlo j0 x c2
def Gh.join (g:Gh)(n m:Nat)(is ks:List Nat)(gc:Gh):Gh where
 obj id:=if id<n then g.obj id else gc.obj (is.length+(id-n))
 st:=gc.st
 fr:=g.fr
 tail k:=match ks.idxOf? k with
  |some j=>gc.tail j
  |none=>if k<m then g.tail k else gc.tail (ks.length+(k-m))
theorem HV {is:List Nat}(hn:is.Nodup){j i:Nat}(h:is[j]?=some i):is.idxOf? i=some j:=by
 cases hx:is.idxOf? i with
 |none=>
  rw [List.idxOf?_eq_none_iff] at hx
  exact absurd (mem_of_getElem? h) hx
 |some k=>rw [lB hn (jR hx) h]
theorem HW {g gc:Gh}{T T':VT}{w w':World}(r:RW g T w){is ks:List Nat}(hi:is.Nodup)(hk:ks.Nodup)(hil:∀i∈is,∃o,T.objs[i]?=some o∧o.live=true)(hkl:∀k∈ks,k<T.tails.length)
  (e:Evo (g.sub T is ks) w gc w') (r':RW gc T' w') (h1:is.length≤T'.objs.length) (h2:ks.length≤T'.tails.length):
  ∃g',Evo g w g' w'∧RW g' (T.back is ks T') w'∧rV gc g' (aJ T.objs.length is) (aJ T.tails.length ks):=by
 have hil':∀i∈is,i<T.objs.length:=λi h=>by obtain ⟨o,h1,_⟩:=hil i h;exact (List.getElem?_eq_some_iff.1 h1).1
 have sObj:∀(j:Nat) i,is[j]?=some i→∃b,g.obj i=some b∧gc.obj j=some b:=λj i hj=>by
  obtain ⟨o,h1,h2⟩:=hil i (mem_of_getElem? hj)
  obtain ⟨b,h3,_⟩:=r.obj i o h1 h2
  exact ⟨b,h3,e.obj j b (by simp [Gh.sub,hj,h3])⟩
 have hg':∃g':Gh,g'=g.join T.objs.length T.tails.length is ks gc:=⟨_,rfl⟩
 obtain ⟨g',hg'⟩:=hg'
 have gst:g'.st=gc.st:=by rw [hg'];rfl
 have gfr:g'.fr=g.fr:=by rw [hg'];rfl
 have oOld:∀id,id<T.objs.length→g'.obj id=g.obj id:=λid h=>by simp [hg',Gh.join,h]
 have oNew:∀d,g'.obj (T.objs.length+d)=gc.obj (is.length+d):=λd=>by
  have e1:g'.obj (T.objs.length+d)=(if T.objs.length+d<T.objs.length then g.obj (T.objs.length+d) else gc.obj (is.length+(T.objs.length+d-T.objs.length))):=by rw [hg'];rfl
  rw [e1,if_neg (by omega),Nat.add_sub_cancel_left]
 have tIn:∀(j:Nat) k,ks[j]?=some k→g'.tail k=gc.tail j:=λj k h=>by simp only [hg',Gh.join,HV hk h]
 have tOld:∀k,k∉ks→k<T.tails.length→g'.tail k=g.tail k:=λk h h'=>by
  have:ks.idxOf? k=none:=by rw [List.idxOf?_eq_none_iff];exact h
  simp only [hg',Gh.join,this,h',if_true]
 have tNew:∀d,g'.tail (T.tails.length+d)=gc.tail (ks.length+d):=λd=>by
  have:ks.idxOf? (T.tails.length+d)=none:=by rw [List.idxOf?_eq_none_iff];exact λh=>by have:=hkl _ h;omega
  have e1:g'.tail (T.tails.length+d)=(match ks.idxOf? (T.tails.length+d) with | some j=>gc.tail j | none=>if T.tails.length+d<T.tails.length then g.tail (T.tails.length+d) else gc.tail (ks.length+(T.tails.length+d-T.tails.length))):=by rw [hg'];rfl
  rw [e1,this]
  simp only
  rw [if_neg (by omega),Nat.add_sub_cancel_left]
 clear hg'
 have ev:Evo g w g' w':=by
  refine ⟨e.os,e.tape,e.output,e.size,λid b hb=>by rw [oOld id (By r hb)];exact hb,λb o hs=>by rw [gst];exact e.st b o hs,gfr,λb hb=>e.frb b (.inl hb),λb o hb hs=>e.frs b o (.inl hb) (by rw [←gst];exact hs),λk x hx=> ?_,λk x hn hx=> ?_,e.csz⟩
  rotate_left
  ·rcases lt_or_ge k T.tails.length with hl | hl
   ·by_cases hm:k∈ks
    ·obtain ⟨j,hj⟩:=mem_iff_getElem?.1 hm
     rw [tIn j k hj] at hx
     exact e.tnew j x (by simp [Gh.sub,hj,hn]) hx
    ·rw [tOld k hm hl,hn] at hx;cases hx
   ·obtain ⟨d,rfl⟩:∃d,k=T.tails.length+d:=⟨k-T.tails.length,by omega⟩
    rw [tNew] at hx
    exact e.tnew _ x (by simp [Gh.sub]) hx
  have hlt:=pX r hx
  by_cases hm:k∈ks
  ·obtain ⟨j,hj⟩:=mem_iff_getElem?.1 hm
   rw [tIn j k hj]
   exact e.tail j x (by simp [Gh.sub,hj,hx])
  ·exact ⟨x,by rw [tOld k hm hlt];exact hx,.inl rfl,rfl,rfl⟩
 have nObj:∀j id,aJ T.objs.length is j=some id→g'.obj id=gc.obj j:=by
  intro j id hj
  unfold aJ at hj
  split at hj
  ·obtain ⟨b,h3,h4⟩:=sObj j id hj
   rw [oOld id (hil' id (mem_of_getElem? hj)),h3,h4]
  ·injection hj with hj;subst hj
   rw [oNew];rw [show is.length+(j-is.length)=j by omega]
 have nTail:∀j k,aJ T.tails.length ks j=some k→g'.tail k=gc.tail j:=by
  intro j k hj
  unfold aJ at hj
  split at hj
  ·exact tIn j k hj
  ·injection hj with hj;subst hj
   rw [tNew];rw [show ks.length+(j-ks.length)=j by omega]
 have rn:rV gc g' (aJ T.objs.length is) (aJ T.tails.length ks):=⟨λj i b hj hb=>by rw [nObj j i hj];exact hb,λj k x hj hx=>by rw [nTail j k hj];exact hx,λb o h=>by rw [gst];exact h⟩
 --what lies where
 obtain ⟨q1,q2,q3,q4⟩:=mf is T.objs (T'.objs.map (VO.ren (aJ T.objs.length is) (aJ T.tails.length ks))) hi hil' (by simpa using h1)
 obtain ⟨p1,p2,p3,p4⟩:=mf ks T.tails T'.tails hk hkl h2
 have clsO:∀(id:Nat) o,(T.back is ks T').objs[id]?=some o→(id<T.objs.length∧id∉is∧T.objs[id]?=some o)∨∃(j:Nat) (o0:VO),aJ T.objs.length is j=some id∧T'.objs[j]?=some o0∧o=o0.ren (aJ T.objs.length is) (aJ T.tails.length ks):=by
  intro id o h
  simp only [VT.back] at h
  rcases lt_or_ge id T.objs.length with hl | hl
  ·by_cases hm:id∈is
   ·obtain ⟨j,hj⟩:=mem_iff_getElem?.1 hm
    rw [q3 j id hj] at h
    simp only [getElem?_map,map_eq_some_iff] at h
    obtain ⟨o0,h3,rfl⟩:=h
    exact .inr ⟨j,o0,qQ hj,h3,rfl⟩
   ·rw [q2 id hl hm] at h;exact .inl ⟨hl,hm,h⟩
  ·obtain ⟨d,rfl⟩:∃d,id=T.objs.length+d:=⟨id-T.objs.length,by omega⟩
   rw [q4 d] at h
   simp only [getElem?_map,map_eq_some_iff] at h
   obtain ⟨o0,h3,rfl⟩:=h
   exact .inr ⟨is.length+d,o0,by unfold aJ;rw [if_neg (by omega),Nat.add_sub_cancel_left],h3,rfl⟩
 have clsT:∀(k:Nat) x,g'.tail k=some x→(k<T.tails.length∧k∉ks∧g.tail k=some x)∨∃(j:Nat),aJ T.tails.length ks j=some k∧gc.tail j=some x:=by
  intro k x h
  rcases lt_or_ge k T.tails.length with hl | hl
  ·by_cases hm:k∈ks
   ·obtain ⟨j,hj⟩:=mem_iff_getElem?.1 hm
    exact .inr ⟨j,qQ hj,by rw [←tIn j k hj];exact h⟩
   ·exact .inl ⟨hl,hm,by rw [←tOld k hm hl];exact h⟩
  ·obtain ⟨d,rfl⟩:∃d,k=T.tails.length+d:=⟨k-T.tails.length,by omega⟩
   exact .inr ⟨ks.length+d,by unfold aJ;rw [if_neg (by omega),Nat.add_sub_cancel_left],by rw [←tNew];exact h⟩
 --blocks that the callee leaves
 have frO:∀(id:Nat) o b,T.objs[id]?=some o→o.live=true→id∉is→g.obj id=some b→(g.sub T is ks).fr b:=λid o b a1 a2 a3 a4=>.inr (.inl ⟨id,o,a1,a2,a3,a4⟩)
 have frT:∀(k:Nat) x b,k∉ks→g.tail k=some x→x.has b→(g.sub T is ks).fr b:=λk x b a1 a2 a3=>.inr (.inr ⟨k,x,a1,a2,a3⟩)
 have noO:∀(j:Nat) o0 b,T'.objs[j]?=some o0→o0.live=true→gc.obj j=some b→¬(g.sub T is ks).fr b:=λj o0 b a1 a2 a3 hf=>by
  obtain ⟨b',c1,_,c3,_⟩:=r'.obj j o0 a1 a2
  rw [a3] at c1;injection c1 with c1;subst c1
  exact c3 (by rw [e.fr];exact hf)
 have noT:∀(j:Nat) x b,gc.tail j=some x→x.has b→¬(g.sub T is ks).fr b:=λj x b a1 a2 hf=>by
  rcases a2 with ⟨o,a2⟩ | ⟨d1,d2,rfl⟩
  ·obtain ⟨x',c1,_,_,c4⟩:=r'.tl j _ (getElem?_eq_getElem (pX r' a1))
   rw [a1] at c1;injection c1 with c1;subst c1
   exact (c4 b o a2).2.2.2 (by rw [e.fr];exact hf)
  ·exact (r'.own j x a1 d1 d2).2.2.2.2 (by rw [e.fr];exact hf)
 refine ⟨g',ev,⟨?_,?_,?_,?_,?_,?_,?_,?_,?_,?_,?_,?_⟩,rn⟩
 ·intro id o h hl
  rcases clsO id o h with ⟨a1,a2,a3⟩ | ⟨j,o0,a1,a2,rfl⟩
  ·obtain ⟨b,c1,c2,c3,c4⟩:=r.obj id o a3 hl
   have hf:=frO id o b a3 hl a2 c1
   exact ⟨b,by rw [oOld id a1];exact c1,c2.mono ev (e.frb b hf),by rw [gfr];exact c3,λo' hs=>c4 o' (e.frs b o' hf (by rw [←gst];exact hs))⟩
  ·rw [VO.ren_live] at hl
   obtain ⟨b,c1,c2,c3,c4⟩:=r'.obj j o0 a2 hl
   exact ⟨b,by rw [nObj j id a1];exact c1,c2.ren rn,λhf=>noO j o0 b a2 hl c1 (.inl (by rw [←gfr];exact hf)),λo' hs=>c4 o' (by rw [←gst];exact hs)⟩
 ·intro i j oi oj b hi' li hj' lj b1 b2
  rcases clsO i oi hi' with ⟨a1,a2,a3⟩ | ⟨j1,o1,a1,a2,rfl⟩<;>rcases clsO j oj hj' with ⟨c1,c2,c3⟩ | ⟨j2,o2,c1,c2,rfl⟩
  ·rw [oOld i a1] at b1;rw [oOld j c1] at b2;exact r.inj i j oi oj b a3 li c3 lj b1 b2
  ·rw [oOld i a1] at b1;rw [nObj j2 j c1] at b2;rw [VO.ren_live] at lj;exact absurd (frO i oi b a3 li a2 b1) (noO j2 o2 b c2 lj b2)
  ·rw [oOld j c1] at b2;rw [nObj j1 i a1] at b1;rw [VO.ren_live] at li;exact absurd (frO j oj b c3 lj c2 b2) (noO j1 o1 b a2 li b1)
  ·rw [nObj j1 i a1] at b1;rw [nObj j2 j c1] at b2;rw [VO.ren_live] at li lj
   have:=r'.inj j1 j2 o1 o2 b a2 li c2 lj b1 b2
   subst this
   rw [a1] at c1;injection c1
 ·intro id hid
  simp only [VT.back,q1,length_map] at hid
  obtain ⟨d,rfl⟩:∃d,id=T.objs.length+d:=⟨id-T.objs.length,by omega⟩
  rw [oNew];exact r'.out _ (by omega)
 ·intro b o hs;exact r'.st b o (by rw [←gst];exact hs)
 ·intro b hb;exact lt_of_lt_of_le (r.fr b (by rw [←gfr];exact hb)) e.size
 ·intro k p h
  simp only [VT.back] at h
  have key:(k<T.tails.length∧k∉ks∧T.tails[k]?=some p)∨∃(j:Nat),aJ T.tails.length ks j=some k∧T'.tails[j]?=some p:=by
   rcases lt_or_ge k T.tails.length with hl | hl
   ·by_cases hm:k∈ks
    ·obtain ⟨j,hj⟩:=mem_iff_getElem?.1 hm
     rw [p3 j k hj] at h
     exact .inr ⟨j,qQ hj,h⟩
    ·rw [p2 k hl hm] at h;exact .inl ⟨hl,hm,h⟩
   ·obtain ⟨d,rfl⟩:∃d,k=T.tails.length+d:=⟨k-T.tails.length,by omega⟩
    rw [p4 d] at h
    exact .inr ⟨ks.length+d,by unfold aJ;rw [if_neg (by omega),Nat.add_sub_cancel_left],h⟩
  rcases key with ⟨a1,a2,a3⟩ | ⟨j,a1,a2⟩
  ·obtain ⟨x,c1,c2,c3,c4⟩:=r.tl k p a3
   refine ⟨x,by rw [tOld k a2 a1];exact c1,c2,c3,λb o hin=> ?_⟩
   have hf:=frT k x b a2 c1 (.inl ⟨o,hin⟩)
   obtain ⟨d1,d2,d3,d4⟩:=c4 b o hin
   have hb:=e.frb b hf
   refine ⟨by rw [cell?,hb];exact d1,by rw [frozen?,hb];exact d2,λhs=>d3 (e.frs b o hf (by rw [←gst];exact hs)),by rw [gfr];exact d4⟩
  ·obtain ⟨x,c1,c2,c3,c4⟩:=r'.tl j p a2
   refine ⟨x,by rw [nTail j k a1];exact c1,c2,c3,λb o hin=> ?_⟩
   obtain ⟨d1,d2,d3,d4⟩:=c4 b o hin
   exact ⟨d1,d2,λhs=>d3 (by rw [←gst];exact hs),λhf=>noT j x b c1 (.inl ⟨o,hin⟩) (.inl (by rw [←gfr];exact hf))⟩
 ·intro k hk'
  simp only [VT.back,p1] at hk'
  obtain ⟨d,rfl⟩:∃d,k=T.tails.length+d:=⟨k-T.tails.length,by omega⟩
  rw [tNew];exact r'.tout _ (by omega)
 ·intro i j x y b hx hy i1 i2
  rcases clsT i x hx with ⟨a1,a2,a3⟩ | ⟨j1,a1,a2⟩<;>rcases clsT j y hy with ⟨c1,c2,c3⟩ | ⟨j2,c1,c2⟩
  ·exact r.tinj i j x y b a3 c3 i1 i2
  ·exact absurd (frT i x b a2 a3 i1) (noT j2 y b c2 i2)
  ·exact absurd (frT j y b c2 c3 i2) (noT j1 x b a2 i1)
  ·have:=r'.tinj j1 j2 x y b a2 c2 i1 i2
   subst this
   rw [a1] at c1;injection c1
 ·intro i oi b k x hi' li b1 hx hin
  rcases clsO i oi hi' with ⟨a1,a2,a3⟩ | ⟨j1,o1,a1,a2,rfl⟩<;>rcases clsT k x hx with ⟨c1,c2,c3⟩ | ⟨j2,c1,c2⟩
  ·rw [oOld i a1] at b1;exact r.tobj i oi b k x a3 li b1 c3 hin
  ·rw [oOld i a1] at b1;exact noT j2 x b c2 hin (frO i oi b a3 li a2 b1)
  ·rw [nObj j1 i a1] at b1;rw [VO.ren_live] at li;exact noO j1 o1 b a2 li b1 (frT k x b c2 c3 hin)
  ·rw [nObj j1 i a1] at b1;rw [VO.ren_live] at li;exact r'.tobj j1 o1 b j2 x a2 li b1 c2 hin
 ·intro k x hx d1 d2
  rcases clsT k x hx with ⟨c1,c2,c3⟩ | ⟨j2,c1,c2⟩
  ·obtain ⟨⟨cur,f1,f1'⟩,f2,f3,f4,f5⟩:=r.own k x c3 d1 d2
   have hf:=frT k x x.b c2 c3 (.inr ⟨d1,d2,rfl⟩)
   exact ⟨⟨cur,by rw [e.frb _ hf];exact f1,f1'⟩,f2,f3,f4,by rw [gfr];exact f5⟩
  ·obtain ⟨f1,f2,f3,f4,f5⟩:=r'.own j2 x c2 d1 d2
   exact ⟨f1,f2,f3,f4,λhf=>noT j2 x x.b c2 (.inr ⟨d1,d2,rfl⟩) (.inl (by rw [←gfr];exact hf))⟩
 ·intro k x hx
  rcases clsT k x hx with ⟨c1,c2,c3⟩ | ⟨j2,c1,c2⟩
  ·exact r.own0 k x c3
  ·exact r'.own0 j2 x c2
 ·intro k x hx
  rcases clsT k x hx with ⟨c1,c2,c3⟩ | ⟨j2,c1,c2⟩
  ·exact le_trans (r.tlo k x c3) e.size
  ·exact r'.tlo j2 x c2
end
section
variable {P:Program}
def MI (σ:List TV):Operand→TV
 | .tmp t=>σ.getD t .dead
 | .const v=>.val v
 | .global g=>.val (.pointer (some ⟨g,0,none⟩))
 | .func f=>.fn (.func f) [] []
theorem vM {g:Gh}{w:World}{σ:List TV}{a:Act}(h:VRs g w σ a.tmps.toList)(x:Operand):VR g w (MI σ x) (a.eval x):=by
 cases x with
 |tmp t=>
  simp only [MI,Act.eval,List.getD_eq_getElem?_getD]
  cases hx:σ[t]? with
  |none=>exact .dead _
  |some y=>
   obtain ⟨u,h1,h2⟩:=h.at hx
   have:a.tmps.getD t undef=u:=by
    rw [Array.getD_eq_getD_getElem?]
    simp only [getElem?_toList] at h1
    rw [h1];rfl
   rw [this];exact h2
 |const v=>exact .val v
 |global k=>exact .val _
 |func f=>exact .fn (us:= []) (vs:= []) rfl (λj x u h=>by simp at h) rfl (λj x u h=>by simp at h)
def bv (σ:List TV)(d:Option Tmp)(x:TV):List TV:=match d with
 |some d=>σ.set d x
 |none=>σ
theorem gz {g:Gh}{w:World}{σ:List TV}{a:Act}(h:VRs g w σ a.tmps.toList)(d:Option Tmp){x:TV}{v:Value}(k:VR g w x v):VRs g w (bv σ d x) (a.put d v).tmps.toList:=by
 cases d with
 |none=>exact h
 |some d=>simpa [bv,Act.put] using h.set d k
theorem cp (a:Act)(d:Option Tmp)(v:Value):(a.put d v).defers=a.defers:=by cases d<;>rfl
def nR (P:Program)(T:VT)(op:Op)(ev:Operand→TV):Option (TV × VT):=match op with
 | .alloc e=>mq P T e
 | .box _ x=>Bv T (ev x)
 | .store t a x=>kU P T t (ev a) (ev x)
 | .build t ps=>(wI P t (ps.toList.map λp=>(p.1,ev p.2))).map λy=>(y,T)
 | .buildSlice t n ps=>(md P t n (ps.toList.map λp=>(p.1,ev p.2))).map λy=>(y,T)
 | .call c=>match c.callee,c.argTypes.toList,c.args.toList with
  | .builtin .append,[t,tx],[s,x]=>ir P T t tx (ev s) (ev x)
  |_,_,_=>none
 |_=>none
def uY (P:Program)(T:VT)(op:Op)(ev:Operand→TV):Option (TV × VT):=match cM P T op ev with
 |some x=>some (x,T)
 |none=>nR P T op ev
def iu:Next→Option Value
 | .value v=>some v
 | .skip=>some undef
 |_=>none
theorem sq {g:Gh}{w:World}{ev:Operand→TV}{ρ:Operand→Value}(hev:∀x,VR g w (ev x) (ρ x))(ps:Array (Nat × Operand)):
  (ps.map λ(i,x)=>(i,ρ x)).toList.length=(ps.toList.map λp=>(p.1,ev p.2)).length∧
  ∀(j:Nat) p q,(ps.toList.map λp=>(p.1,ev p.2))[j]?=some p→(ps.map λ(i,x)=>(i,ρ x)).toList[j]?=some q→q.1=p.1∧VR g w p.2 q.2:=by
 refine ⟨by simp,λj p q hp hq=> ?_⟩
 simp only [toList_map,getElem?_map,map_eq_some_iff] at hp hq
 obtain ⟨a,h1,rfl⟩:=hp
 obtain ⟨b,h2,rfl⟩:=hq
 rw [h1] at h2;injection h2 with h2;subst h2
 exact ⟨rfl,hev _⟩
theorem Ky {o:Oper}{fo:Operand}{args:Array Operand}{ats:Array TypeId}(ho:o.op=.call ⟨.value fo,args,ats⟩){ρ:Operand→Value}{f:FuncId}{fi ca:List Value}(hf:ρ fo=.func (.func f) fi.toArray ca.toArray)
  {fn:Func} (hfn:P.funcs[f]?=some fn) (hb:fn.body.isSome=true) (hnm:(fn.name== "runtime.NumGoroutine")=false) (w:World):
  (execOp ρ o).run P w=.ok (.enter f (fi++args.toList.map ρ++ca).toArray) w:=by
 obtain ⟨dst,op,ty,pos,af,gd⟩:=o
 simp only at ho;subst ho
 have hb':fn.body≠none:=by intro h;rw [h] at hb;cases hb
 have hnm':fn.name≠ "runtime.NumGoroutine" :=by simpa using hnm
 simp [execOp,resolve,hf,Deferred.ofValue,invoke,callFunc,hfn,hnm',hb',yB]
def Bz (ops:Array Oper)(σ:List TV)(j:Nat):Option (Option Bool):=match (ops[j]?).bind (·.dst) with
 |none=>some none
 |some d=>match σ[d]? with
  |some (.val (.bool b))=>some (some b)
  |some (.val (.tuple _))=>some none
  |none=>some none
  |_=>none
def uj (ops:Array Oper)(σ:List TV)(o:Oper):Option Bool:=match o.guard with
 |none=>some true
 |some (j,want)=>(Bz ops σ j).map λy=>y==some want
theorem FG {g:Gh}{w:World}{ops:Array Oper}{σ:List TV}{a:Act}{o:Oper}{b:Bool}(h:uj ops σ o=some b)(hσ:VRs g w σ a.tmps.toList):wanted o (yielded ops a.tmps)=b:=by
 unfold uj at h
 unfold wanted
 split at h
 ·rename_i hg;rw [hg];injection h
 ·rename_i j want hg
  rw [hg]
  simp only [map_eq_some_iff] at h
  obtain ⟨y,h1,rfl⟩:=h
  suffices yielded ops a.tmps j=y by simp only [this]
  unfold Bz at h1
  unfold yielded
  cases hd:(ops[j]?).bind (·.dst) with
  |none=>rw [hd] at h1;injection h1 with h1
  |some d=>
   rw [hd] at h1
   simp only [Option.bind_some] at h1 ⊢
   cases hs:σ[d]? with
   |none=>
    rw [hs] at h1;injection h1 with h1;subst h1
    have:a.tmps[d]?=none:=by
     rw [List.getElem?_eq_none_iff] at hs
     rw [Array.getElem?_eq_none]
     have:=hσ.1
     simp at this;omega
    rw [this]
   |some x=>
    rw [hs] at h1
    obtain ⟨u,hu,hv⟩:=hσ.at hs
    simp only [getElem?_toList] at hu
    rw [hu]
    split at h1
    ·rename_i b hx;injection hx with hx;subst hx;injection h1 with h1;subst h1;rw [hv.val_inv]
    ·rename_i l hx;injection hx with hx;subst hx;injection h1 with h1;subst h1;rw [hv.val_inv]
    ·rename_i hx;cases hx
    ·cases h1
def un (P:Program)(T:VT)(σ:List TV):ResultVar→Option TV
 | .tmp t=>some (σ.getD t (.val undef))
 | .cell a t=>match σ.getD a .dead with
  | .ptr i o=>jp P T t (.ptr i o)
  |_=>none
def kz (P:Program)(T:VT)(σ:List TV):List ResultVar→Option (List TV)
 |[]=>some []
 |r::l=>match un P T σ r,kz P T σ l with
  |some x,some xs=>some (x::xs)
  |_,_=>none
def nS (P:Program)(T:VT)(σ:List TV)(rs:Array ResultVar):Option TV:=match kz P T σ rs.toList with
 |some [x]=>some x
 |some xs=>some (.tup xs)
 |none=>none
def uo (a:Act):ResultVar→Sem Value
 | .tmp t=>pure (a.tmps.getD t undef)
 | .cell p t=>do loadVar t (←asAddr (a.tmps.getD p undef))
theorem FH {g:Gh}{T:VT}{w:World}{σ:List TV}{a:Act}(r:RW g T w)(hσ:VRs g w σ a.tmps.toList){rv:ResultVar}{x:TV}(h:un P T σ rv=some x):
  ∃v,VR g w x v∧(uo a rv).run P w=.ok v w:=by
 have key:∀t,∃u,a.tmps.getD t undef=u∧VR g w (σ.getD t (.val undef)) u∧VR g w (σ.getD t .dead) u:=by
  intro t
  rw [Array.getD_eq_getD_getElem?]
  simp only [List.getD_eq_getElem?_getD]
  cases hx:σ[t]? with
  |none=>
   have:a.tmps[t]?=none:=by
    rw [List.getElem?_eq_none_iff] at hx
    rw [Array.getElem?_eq_none]
    have:=hσ.1
    simp at this;omega
   rw [this];exact ⟨_,rfl,.val _,.dead _⟩
  |some y=>
   obtain ⟨u,hu,hv⟩:=hσ.at hx
   simp only [getElem?_toList] at hu
   rw [hu];exact ⟨u,rfl,hv,hv⟩
 cases rv with
 |tmp t=>
  simp only [un] at h
  injection h with h;subst h
  obtain ⟨u,h1,h2,_⟩:=key t
  exact ⟨u,h2,by simp [uo,h1]⟩
 |cell p t=>
  simp only [un] at h
  obtain ⟨u,h1,_,h2⟩:=key p
  split at h
  ·rename_i i o hp
   rw [hp] at h2
   obtain ⟨v,h3,h4⟩:=(vK r h h2).run
   obtain ⟨b,hb,rfl⟩:=h2.ptr_inv
   refine ⟨v,h3,?_⟩
   simp only [uo,h1]
   simpa [asAddr,loadAt,sureAddr] using h4
  ·cases h
theorem ss {g:Gh}{T:VT}{w:World}{σ:List TV}{a:Act}(r:RW g T w)(hσ:VRs g w σ a.tmps.toList):∀{rs:List ResultVar} {xs:List TV},kz P T σ rs=some xs→
  ∃vs:List Value,VRs g w xs vs∧(rs.mapM (uo a)).run P w=.ok vs w
 |[],xs,h=>by simp [kz] at h;subst h;exact ⟨[],VRs.nil _ _,by simp⟩
 |rv::rs,xs,h=>by
  simp only [kz] at h
  split at h
  ·rename_i x xs' h1 h2
   injection h with h;subst h
   obtain ⟨v,h3,h4⟩:=FH r hσ h1
   obtain ⟨vs,h5,h6⟩:=ss r hσ h2
   refine ⟨v::vs,.cons h3 h5,?_⟩
   rw [List.mapM_cons]
   simp only [run_bind,h4,andThen_ok,h6,run_pure]
  ·cases h
theorem D4 {g:Gh}{T:VT}{w:World}{σ:List TV}{a:Act}(r:RW g T w)(hσ:VRs g w σ a.tmps.toList){fn:Func}{x:TV}(h:nS P T σ fn.results=some x):∃v,VR g w x v∧(results fn a.tmps).run P w=.ok v w:=by
 unfold nS at h
 have key:∀xs,kz P T σ fn.results.toList=some xs→∃vs:List Value,VRs g w xs vs∧(results fn a.tmps).run P w=.ok (if h:vs.toArray.size=1 then vs.toArray[0] else .tuple vs.toArray) w:=by
  intro xs hx
  obtain ⟨vs,h1,h2⟩:=ss r hσ hx
  refine ⟨vs,h1,?_⟩
  unfold results
  rw [Array.mapM_eq_mapM_toList]
  simp only [run_bind,Sem.run_map]
  have e:(λx=>(match x with | .tmp t=>pure (a.tmps.getD t undef) | .cell p t=>do loadVar t (←asAddr (a.tmps.getD p undef)):Sem Value))=uo a:=by funext x;cases x<;>rfl
  first | (rw [e,h2];rfl) | (show ((Sem.run P (List.mapM (uo a) _) w).andThen _).andThen _=_;rw [h2];rfl)
 split at h
 ·rename_i y hy
  injection h with h;subst h
  obtain ⟨vs,h1,h2⟩:=key _ hy
  obtain ⟨v,hv,hvr⟩:=h1.at (j:=0) rfl
  have hl:=h1.1
  match vs,hl,hv,h2 with
  |[v'],_,hv,h2=>simp at hv;subst hv;exact ⟨v',hvr,by simpa using h2⟩
 ·rename_i ys hne hy
  injection h with h;subst h
  obtain ⟨vs,h1,h2⟩:=key _ hy
  refine ⟨_,.mk_tup h1,?_⟩
  have:vs.length≠1:=by
   rw [h1.1]
   intro hl
   match ys,hl,hne with
   |[z],_,hne=>exact hne z rfl
  simpa [this] using h2
 ·cases h
end
section
variable {P:Program}
def ap (n i:Nat):Option Nat:=if i<n then some i else none
def VT.keep (T:VT)(n m:Nat):VT:=⟨(T.objs.take n).map (VO.ren (ap n) (ap m)),T.tails.take m⟩
def Gh.keep (g:Gh)(n m:Nat):Gh:={g with obj:=λi=>if i<n then g.obj i else none,tail:=λi=>if i<m then g.tail i else none}
theorem vN (g:Gh)(n m:Nat):rV g (g.keep n m) (ap n) (ap m):=by
 refine ⟨λi i' b h1 h2=> ?_,λk k' x h1 h2=> ?_,λ_ _ h=>h⟩
 ·simp only [ap] at h1
  split at h1
  ·rename_i hi;injection h1 with h1;subst h1;simp [Gh.keep,hi,h2]
  ·cases h1
 ·simp only [ap] at h1
  split at h1
  ·rename_i hi;injection h1 with h1;subst h1;simp [Gh.keep,hi,h2]
  ·cases h1
theorem RW.keep {g:Gh}{T:VT}{w:World}(r:RW g T w)(n m:Nat):RW (g.keep n m) (T.keep n m) w:=by
 have hob:∀(id:Nat) o,(T.keep n m).objs[id]?=some o→id<n∧∃o0,T.objs[id]?=some o0∧o=o0.ren (ap n) (ap m):=by
  intro id o h
  simp only [VT.keep,getElem?_map,getElem?_take,map_eq_some_iff] at h
  obtain ⟨o0,h1,rfl⟩:=h
  split at h1
  ·exact ⟨by assumption,o0,h1,rfl⟩
  ·cases h1
 have hgo:∀id,id<n→(g.keep n m).obj id=g.obj id:=λid h=>by simp [Gh.keep,h]
 have hgt:∀k x,(g.keep n m).tail k=some x→k<m∧g.tail k=some x:=λk x h=>by
  simp only [Gh.keep] at h
  split at h
  ·exact ⟨by assumption,h⟩
  ·cases h
 refine ⟨?_,?_,?_,r.st,r.fr,?_,?_,?_,?_,λk x hx=>r.own k x (hgt k x hx).2,λk x hx=>r.own0 k x (hgt k x hx).2,λk x hx=>r.tlo k x (hgt k x hx).2⟩
 ·intro id o h hl
  obtain ⟨hid,o0,h1,rfl⟩:=hob id o h
  rw [VO.ren_live] at hl
  obtain ⟨b,h2,h3,h4⟩:=r.obj id o0 h1 hl
  exact ⟨b,by rw [hgo id hid];exact h2,h3.ren (vN g n m),h4⟩
 ·intro i j oi oj b hi li hj lj b1 b2
  obtain ⟨hin,o1,h1,rfl⟩:=hob i oi hi
  obtain ⟨hjn,o2,h2,rfl⟩:=hob j oj hj
  rw [VO.ren_live] at li lj
  rw [hgo i hin] at b1;rw [hgo j hjn] at b2
  exact r.inj i j o1 o2 b h1 li h2 lj b1 b2
 ·intro id hid
  simp only [VT.keep,length_map,length_take] at hid
  simp only [Gh.keep]
  split
  ·exact r.out id (by omega)
  ·rfl
 ·intro k p h
  simp only [VT.keep,getElem?_take] at h
  split at h
  ·rename_i hk
   obtain ⟨x,h1,h2⟩:=r.tl k p h
   exact ⟨x,by simp [Gh.keep,hk,h1],h2⟩
  ·cases h
 ·intro k hk
  simp only [VT.keep,length_take] at hk
  simp only [Gh.keep]
  split
  ·exact r.tout k (by omega)
  ·rfl
 ·intro i j x y b hx hy i1 i2
  exact r.tinj i j x y b (hgt i x hx).2 (hgt j y hy).2 i1 i2
 ·intro i oi b k x hi li b1 hx hin
  obtain ⟨hin',o1,h1,rfl⟩:=hob i oi hi
  rw [VO.ren_live] at li
  rw [hgo i hin'] at b1
  exact r.tobj i o1 b k x h1 li b1 (hgt k x hx).2 hin
theorem Evo.keep {g0 g:Gh}{T0:VT}{w0 w:World}(r0:RW g0 T0 w0)(e:Evo g0 w0 g w){n m:Nat}(hn:T0.objs.length≤n)(hm:T0.tails.length≤m):Evo g0 w0 (g.keep n m) w:=by
 refine ⟨e.os,e.tape,e.output,e.size,λid b hb=> ?_,e.st,e.fr,e.frb,e.frs,λk x hx=> ?_,λk x h1 h2=> ?_,e.csz⟩
 rotate_left 2
 ·simp only [Gh.keep] at h2
  split at h2
  ·exact e.tnew k x h1 h2
  ·cases h2
 ·have:=By r0 hb
  simp only [Gh.keep]
  rw [if_pos (by omega)];exact e.obj id b hb
 ·have:=pX r0 hx
  simp only [Gh.keep]
  rw [if_pos (by omega)];exact e.tail k x hx
theorem VT.give_nil (T:VT):T.give [] []=⟨[],[]⟩:=rfl
theorem VT.back_nil (T:VT)(T':VT):T.back [] [] T'=⟨T.objs++T'.objs.map (VO.ren (aJ T.objs.length []) (aJ T.tails.length [])),T.tails++T'.tails⟩:=by simp [VT.back,bJ]
variable (t:TypeId)(xo yo:Operand)(k k':IntKind)(a b:Int)
end
section
variable {P:Program}(t:TypeId)(xo yo:Operand)(k k':IntKind)(a b:Int)
end
section
variable {P:Program}
def cN (P:Program)(op:Op)(ev:Operand→TV):Option TV:=match op with
 | .move x | .assign x=>some (ev x)
 | .pick c a b=>match ev c with
  | .val (.bool t)=>some (bif t then ev a else ev b)
  |_=>none
 | .binOp op t x y _=>Br P op t x y (ev x) (ev y)
 | .unOp op _ x=>(cL (ev x)).bind λv=>(bZ P (Op.unary op v)).map .val
 | .convert s d x=>(cL (ev x)).bind λv=>(bZ P (Go.convert s d v)).map .val
 | .field t x f=>wH P t (ev x) f
 | .fieldAddr s x f=>nf P s (ev x) f
 | .indexAddr t x i=>fP P t (ev x) (ev i)
 | .index t x i=>(cL (ev x)).bind λa=>(cL (ev i)).bind λb=>(bZ P (Instr.index t a b)).map .val
 | .slice t x lo hi mx=>nP P t (ev x) (lo.map ev) (hi.map ev) (mx.map ev)
 | .extract x i=>match ev x with
  | .tup cs=>cs[i]?
  | .val (.tuple vs)=>(vs[i]?).map .val
  |_=>none
 | .build t ps=>wI P t (ps.toList.map λp=>(p.1,ev p.2))
 | .makeFunc f fi ca=>some (.fn f (fi.toList.map ev) (ca.toList.map ev))
 | .makeInterface t x=>match P.underlying t with
  |some (.interface _)=>none
  |some _=>some (.ifc t (ev x))
  |none=>none
 | .call c=>match c.callee,c.argTypes.toList,c.args.toList with
  | .builtin .len,[t],[x]=>(match ev x with
   | .map _=>none
   |_=>pE P ⟨[],[]⟩ t (ev x))
  |_,_,_=>none
 |_=>none
theorem Looks0.next {g:Gh}{w:World}{s:Sem Value}{y:TV}{n:Sem Next}(h:Looks0 P g w s y)(e:n=(do pure (.value (←s)))):∃v,VR g w y v∧∀w',n.run P w'=.ok (.value v) w':=by
 obtain ⟨v,h1,h2⟩:=h
 exact ⟨v,h1,λw'=>by subst e;simp [h2 w']⟩
theorem Ui {g:Gh}{w:World}{t ty:TypeId}{x y:TV}{u:Value}(hm:∀i,x≠ .map i)(h:pE P ⟨[],[]⟩ t x=some y)(hx:VR g w x u):Looks0 P g w (len_ #[t] ty #[u]) y:=by
 unfold pE at h
 split at h
 ·rename_i e hu
  split at h
  ·injection h with h;subst h
   rcases hx.vec_inv with ⟨rfl,rfl,_⟩ | ⟨b,o,c,us,rfl,_⟩ | ⟨a,rfl,rfl,_⟩
   ·exact .of_ok (.val _) λw'=>by simp [len_,run_underlying hu,goInt]
   ·exact .of_ok (.val _) λw'=>by simp [len_,run_underlying hu,goInt]
   ·exact .of_ok (.val _) λw'=>by simp [len_,run_underlying hu,goInt]
  ·injection h with h;subst h
   obtain ⟨b,_,rfl⟩:=hx.sl_inv
   exact .of_ok (.val _) λw'=>by simp [len_,run_underlying hu,goInt]
  ·injection h with h;subst h
   rw [hx.val_inv]
   exact .of_ok (.val _) λw'=>by simp [len_,run_underlying hu,goInt]
  ·cases h
 ·rename_i hu
  split at h
  ·injection h with h;subst h
   rw [hx.val_inv]
   exact .of_ok (.val _) λw'=>by simp [len_,run_underlying hu,goInt]
  ·cases h
 ·rename_i n e hu
  injection h with h;subst h
  exact .of_ok (.val _) λw'=>by simp [len_,run_underlying hu,goInt]
 ·rename_i k e hu
  split at h
  ·injection h with h;subst h
   rw [hx.val_inv]
   exact .of_ok (.val _) λw'=>by simp [len_,run_underlying hu,goInt]
  ·exact absurd rfl (hm _)
  ·cases h
 ·cases h
set_option maxHeartbeats 1000000 in
theorem Kz {g:Gh}{w:World}{o:Oper}{ev:Operand→TV}{ρ:Operand→Value}{y:TV}(h:cN P o.op ev=some y)(hev:∀x,VR g w (ev x) (ρ x)):
  ∃v,VR g w y v∧∀w',(execOp ρ o).run P w'=.ok (.value v) w':=by
 obtain ⟨dst,op,ty,pos,af,gd⟩:=o
 simp only at h
 cases op<;>simp only [cN] at h<;>try (cases h)
 case move x=>exact ⟨_,hev x,λw'=>rfl⟩
 case assign x=>exact ⟨_,hev x,λw'=>rfl⟩
 case pick c a b=>
  split at h
  ·rename_i t hc
   injection h with h;subst h
   have h1:=hev c
   rw [hc] at h1
   refine ⟨bif t then ρ a else ρ b,by cases t<;>simp [hev],λw'=> ?_⟩
   simp only [execOp,h1.val_inv]
   cases t<;>rfl
  ·cases h
 case binOp op t x y yt=>exact (Ek h (hev x) (hev y)).next (by rfl)
 case unOp op t x=>
  simp only [bind_eq_some_iff,map_eq_some_iff] at h
  obtain ⟨v,h1,c,h2,rfl⟩:=h
  exact (Looks0.of_pure h2).next (by simp only [execOp,cE h1 (hev x)])
 case convert s d x=>
  simp only [bind_eq_some_iff,map_eq_some_iff] at h
  obtain ⟨v,h1,c,h2,rfl⟩:=h
  exact (Looks0.of_pure h2).next (by simp only [execOp,cE h1 (hev x)])
 case field t x f=>exact (zD h (hev x)).next (by rfl)
 case fieldAddr s x f=>exact (rP h (hev x)).next (by rfl)
 case indexAddr t x i=>exact (rQ h (hev x) (hev i)).next (by rfl)
 case index t x i=>
  simp only [bind_eq_some_iff,map_eq_some_iff] at h
  obtain ⟨v,h1,v2,h2,c,h3,rfl⟩:=h
  exact (Looks0.of_pure h3).next (by simp only [execOp,cE h1 (hev x),cE h2 (hev i)])
 case slice t x lo hi mx=>exact (zE h (hev x) (BR.map hev lo) (BR.map hev hi) (BR.map hev mx)).next (by rfl)
 case extract x i=>
  split at h
  ·rename_i cs hc
   have h1:=hev x
   rw [hc] at h1
   obtain ⟨us,h2,h3⟩:=h1.tup_inv
   obtain ⟨v,h4,h5⟩:=h3.at h
   exact ⟨v,h5,λw'=>by simp [execOp,h2,Instr.extract,h4]⟩
  ·rename_i vs hc
   have h1:=hev x
   rw [hc] at h1
   simp only [map_eq_some_iff] at h
   obtain ⟨v,h2,rfl⟩:=h
   exact ⟨v,.val v,λw'=>by simp [execOp,h1.val_inv,Instr.extract,h2]⟩
  ·cases h
 case build t ps=>
  obtain ⟨h1,h2⟩:=sq hev ps
  obtain ⟨v,h3,h4⟩:=zF h h1 h2
  exact ⟨v,h3,λw'=>by simp only [execOp,run_bind,h4,andThen_ok,run_pure]⟩
 case makeFunc f fi ca=>
  have h1:=jq hev fi.toList
  have h2:=jq hev ca.toList
  exact ⟨_,.fn h1.1 h1.2 h2.1 h2.2,λw'=>by simp [execOp,Instr.makeFunc,yB]⟩
 case makeInterface t x=>
  split at h
  ·cases h
  ·rename_i d hnd hd
   injection h with h;subst h
   refine ⟨_,.ifc (hev x),λw'=> ?_⟩
   simp only [execOp,Instr.makeInterface,run_bind,run_underlying hd,andThen_ok]
   cases d<;>first | rfl | exact absurd rfl (hnd _)
  ·cases h
 case call c=>
  obtain ⟨cal,args,ats⟩:=c
  split at h
  ·rename_i t x hc h1 h2
   simp only at hc h1 h2;subst hc
   have e1:ats= #[t]:=by rw [←toArray_toList (xs:=ats),h1]
   have e2:args= #[x]:=by rw [←toArray_toList (xs:=args),h2]
   subst e1 e2
   split at h
   ·cases h
   ·rename_i hm
    exact (Ui (ty:=ty) (λi hi=>hm i hi) h (hev x)).next (by simp [execOp,resolve,invoke,builtin])
  ·cases h
theorem up (j:Nat)(h:j<9223372036854775807):i64.wrap ((j:Int)+1)=((j+1:Nat):Int):=by
 simp only [wrap,IntKind.bits,IntKind.signed];simp;omega
def jZ (P:Program)(T:VT)(op:Op)(ev:Operand→TV):Option (TV × VT):=match op with
 | .alloc e=>mq P T e
 | .box _ x=>Bv T (ev x)
 | .buildSlice t n ps=>(md P t n (ps.toList.map λp=>(p.1,ev p.2))).map λy=>(y,T)
 | .call c=>match c.callee,c.argTypes.toList,c.args.toList with
  | .builtin .append,[t,tx],[s,x]=>ir P T t tx (ev s) (ev x)
  |_,_,_=>none
 |_=>none
theorem Does.nextS {g:Gh}{T T':VT}{w:World}{s:Sem Value}{y:TV}{n:Sem Next}(h:Does P g T w s y T')(e:n=(do pure (.value (←s)))):
  ∃v g' w',n.run P w=.ok (.value v) w'∧VR g' w' y v∧Evo g w g' w'∧RW g' T' w'∧Same g T w w':=by
 obtain ⟨v,g',w',h1,h2⟩:=h
 exact ⟨v,g',w',by subst e;simp [h1],h2⟩
theorem BA {g:Gh}{T T':VT}{w:World}(r:RW g T w){o:Oper}{ev:Operand→TV}{ρ:Operand→Value}{y:TV}(h:jZ P T o.op ev=some (y,T'))(hev:∀x,VR g w (ev x) (ρ x)):
  ∃v g' w',(execOp ρ o).run P w=.ok (.value v) w'∧VR g' w' y v∧Evo g w g' w'∧RW g' T' w'∧Same g T w w':=by
 obtain ⟨dst,op,ty,pos,af,gd⟩:=o
 simp only at h
 cases op<;>simp only [jZ] at h<;>try (cases h)
 case alloc e=>exact (HR (P:=P) r h).nextS rfl
 case box e x=>exact (NP (P:=P) (t:=e) r h (hev x)).nextS rfl
 case buildSlice t n ps=>
  simp only [map_eq_some_iff] at h
  obtain ⟨y',h,e⟩:=h
  injection e with e1 e2;subst e1 e2
  obtain ⟨h1,h2⟩:=sq hev ps
  exact (yD r h h1 h2).nextS rfl
 case call c=>
  obtain ⟨cal,args,ats⟩:=c
  split at h
  ·rename_i t tx s x hc h1 h2
   simp only at hc h1 h2
   subst hc
   have e1:ats= #[t,tx]:=by rw [←toArray_toList (xs:=ats),h1]
   have e2:args= #[s,x]:=by rw [←toArray_toList (xs:=args),h2]
   subst e1 e2
   exact (wL (ty:=ty) r h (hev s) (hev x)).nextS (by simp [execOp,resolve,invoke,builtin])
  ·cases h
def A3 (P:Program)(T0:VT)(op:Op)(ev:Operand→TV):Option TV:=match op with
 | .load t a=>match ev a with
  | .ptr id off=>jp P T0 t (.ptr id off)
  |_=>none
 |_=>none
theorem su {T0:VT}{id off n:Nat}{cs:List TV}(h:dC T0 (.ptr id off) n=some cs):∃oo,T0.objs[id]?=some oo∧oo.live=true:=by
 simp only [dC] at h
 split at h
 ·exact ⟨_,by assumption,rfl⟩
 ·exact ⟨_,by assumption,rfl⟩
 ·cases h
theorem KA {g0 g:Gh}{T0:VT}{w0 w:World}(r0:RW g0 T0 w0)(e:Evo g0 w0 g w){o:Oper}{ev:Operand→TV}{ρ:Operand→Value}{y:TV}(h:A3 P T0 o.op ev=some y)(hev:∀x,VR g w (ev x) (ρ x)):
  ∃v,VR g w y v∧∀w',Same g0 T0 w0 w'→(execOp ρ o).run P w'=.ok (.value v) w':=by
 obtain ⟨dst,op,ty,pos,af,gd⟩:=o
 simp only at h
 cases op<;>simp only [A3] at h<;>try (cases h)
 case load t a=>
  split at h
  ·rename_i id off ha
   have h1:=hev a
   rw [ha] at h1
   obtain ⟨b,hb,hu⟩:=h1.ptr_inv
   have hl:∃oo,T0.objs[id]?=some oo∧oo.live=true:=by
    unfold jp at h
    split at h
    ·split at h
     ·simp only [map_eq_some_iff] at h
      obtain ⟨cs,h,_⟩:=h
      exact su h
     ·split at h
      ·rename_i h2
       exact su h2
      ·cases h
    ·cases h
   obtain ⟨oo,hcs,hol⟩:=hl
   obtain ⟨b0,hb0,_⟩:=r0.obj id _ hcs hol
   have:=e.obj id b0 hb0
   rw [hb] at this;injection this with this;subst this
   have h2:VR g0 w0 (.ptr id off) (ρ a):=by rw [hu];exact .ptr hb0
   obtain ⟨v,h3,h4⟩:=vK r0 h h2
   exact ⟨v,h3.mono e,λw' hs=>by simp [execOp,h4 w' hs]⟩
  ·cases h
theorem RW.drew {g:Gh}{T:VT}{w:World}(r:RW g T w):RW g T w.drew:=r.gr (Gr.refl w).drew
end
section
variable {P:Program}
structure Fix (ro:Nat) (g:Gh) (T:VT) (w:World) (T':VT) (w':World):Prop where
 len:T.objs.length≤T'.objs.length
 same:∀i,i<ro→i<T.objs.length→T'.objs[i]?=T.objs[i]?
 heap:∀(i:Nat) o b,i<ro→T.objs[i]?=some o→o.live=true→g.obj i=some b→w'.heap[b]?=w.heap[b]?
theorem Fix.refl (ro:Nat)(g:Gh)(T:VT)(w:World):Fix ro g T w T w:=⟨le_refl _,λ_ _ _=>rfl,λ_ _ _ _ _ _ _=>rfl⟩
theorem Fix.trans {ro:Nat}{g g':Gh}{T T' T'' :VT}{w w' w'' :World}(h:Fix ro g T w T' w')(e:Evo g w g' w')(k:Fix ro g' T' w' T'' w''):Fix ro g T w T'' w'' where
 len:=le_trans h.len k.len
 same i hi hl:=(k.same i hi (lt_of_lt_of_le hl h.len)).trans (h.same i hi hl)
 heap i o b hi ho hl hb:=by
  have hlt:=(List.getElem?_eq_some_iff.1 ho).1
  exact (k.heap i o b hi ((h.same i hi hlt).trans ho) hl (e.obj i b hb)).trans (h.heap i o b hi ho hl hb)
theorem Fix.mono {ro ro':Nat}(hr:ro≤ro'){g:Gh}{T T':VT}{w w':World}(h:Fix ro' g T w T' w'):Fix ro g T w T' w':=
 ⟨h.len,λi hi=>h.same i (lt_of_lt_of_le hi hr),λi o b hi=>h.heap i o b (lt_of_lt_of_le hi hr)⟩
theorem Fix.of_same {ro:Nat}{g:Gh}{T T':VT}{w w':World}(h:Same g T w w')(k:T'.objs.take T.objs.length=T.objs):Fix ro g T w T' w' where
 len:=by
  have:=congrArg length k
  rw [length_take] at this;omega
 same i _ hl:=by
  have:=congrArg (·[i]?) k
  simp only [getElem?_take,hl,if_true] at this
  exact this
 heap i o b _ ho hl hb:=h.obj i o b ho hl hb
def oT (ro:Nat)(op:Op)(ev:Operand→TV):Bool:=match op with
 | .store _ a _=>match ev a with
  | .ptr id _=>Nat.ble ro id
  |_=>false
 |_=>true
theorem df {ro:Nat}{g:Gh}{T:VT}{w w':World}(r:RW g T w){id b:Nat}{o o':VO}(hid:T.objs[id]?=some o)(hl:o.live=true)(hb:g.obj id=some b)(hr:ro≤id)
  (hoth:∀c,c≠b→w'.heap[c]?=w.heap[c]?):Fix ro g T w {T with objs:=T.objs.set id o' } w' where
 len:=by simp
 same i hi _:=by
  simp only [getElem?_set]
  rw [if_neg (by omega)]
 heap i oi bi hi ho hli hbi:=hoth bi λh=>by
  have:=r.inj i id oi o b ho hli hid hl (h▸hbi) hb
  omega
theorem nh {ro:Nat}{g:Gh}{T:VT}{w:World}(r:RW g T w){t:TypeId}{id off:Nat}{x y:TV}{ua u:Value}{T':VT}(h:kU P T t (.ptr id off) x=some (y,T'))(ha:VR g w (.ptr id off) ua)(hx:VR g w x u)(hr:ro≤id):
  ∃g' w',(storeAt t ua u).run P w=.ok () w'∧VR g' w' y undef∧Evo g w g' w'∧RW g' T' w'∧Fix ro g T w T' w':=by
 unfold kU at h
 simp only at h
 split at h
 ·rename_i cs new i hid hc hi
  split at h
  ·rename_i hh
   obtain ⟨h1,h2,h3⟩:=hh
   injection h with h;injection h with e1 e2;subst e1 e2
   obtain ⟨b,hb,rfl⟩:=ha.ptr_inv
   obtain ⟨b',h4,⟨us,ty,h5,h6,h7⟩,_⟩:=r.obj id _ hid rfl
   rw [hb] at h4;injection h4 with h4;subst h4
   have k:=kT hc hx
   have ho:=ky h3 k
   have hl:u.cells.toList.length=new.length:=k.1
   have hus:us.length=cs.length:=h6.1
   have hrun:=run_storeCells_at (P:=P) b off ty u.cells.toList 0 us.toArray w h5 (by simp at hl ⊢;omega) ho
   simp only [add_zero,hl] at hrun
   have hsr:=setRow_heap w b _ (us.take off++u.cells.toList++us.drop (off+new.length)).toArray ty (0,0) h5
   have hcs:bI (w.setRow b (us.take off++u.cells.toList++us.drop (off+new.length)).toArray) b=bI w b:=by
    rw [bG hsr,bG h5]
    simp at hl ⊢;omega
   have e0:Evo g w g (w.setRow b (us.take off++u.cells.toList++us.drop (off+new.length)).toArray):=by
    refine ⟨rfl,rfl,rfl,by simp,λ_ _ h=>h,λc p hs=>⟨hs,?_⟩,rfl,λc hc=> ?_,λ_ _ _ h=>h,λ_ x h=>⟨x,h,.inl rfl,rfl,rfl⟩,(λ_ _ h h'=>nomatch (h.symm.trans h')),λc _=> ?_⟩
    rotate_right
    ·by_cases hc:c=b
     ·subst hc;exact hcs
     ·unfold bI;rw [setRow_other w b c _ hc]
    ·obtain ⟨b2,q1,_,_,q4⟩:=r.obj id _ hid rfl
     rw [hb] at q1;injection q1 with q1;subst q1
     exact cell_setRow_other w b _ _ (by rintro rfl;exact q4 p hs)
    ·obtain ⟨b2,q1,_,q3,_⟩:=r.obj id _ hid rfl
     rw [hb] at q1;injection q1 with q1;subst q1
     exact setRow_other w b c _ (by rintro rfl;exact q3 hc)
   have k2:=(((h6.take off).app k).app (h6.drop (off+new.length))).mono e0
   have o2:∀v∈us.take off++u.cells.toList++us.drop (off+new.length),v.oneCell'=true:=by
    intro v hv
    simp only [mem_append] at hv
    rcases hv with (hv | hv) | hv
    ·exact h7 v (mem_of_mem_take hv)
    ·exact ho v hv
    ·exact h7 v (mem_of_mem_drop hv)
   have hoth:∀c,c≠b→(w.setRow b (us.take off++u.cells.toList++us.drop (off+new.length)).toArray).heap[c]?=w.heap[c]?:=λc hc=>setRow_other w b c _ hc
   obtain ⟨r',e'⟩:=r.setObj hid rfl hb (o':=.cells (bs cs off new)) (w':=w.setRow b (us.take off++u.cells.toList++us.drop (off+new.length)).toArray) ⟨rfl,rfl,rfl⟩ (by simp) hoth hcs
    (λ_=>⟨_,ty,setRow_heap w b _ _ ty (0,0) h5,k2,o2⟩)
   refine ⟨g,_,?_,.val _,e',r',df r hid rfl hb hr hoth⟩
   have hs:u.cells.size=i.size:=by rw [h1,←hl];simp
   simp only [storeAt,sureAddr,storeVar,run_bind,run_pure,andThen_ok,bH hi,hs]
   simpa using hrun
  ·cases h
 ·cases h
theorem zH {T T':VT}{cs:List TV}{y:TV}(h:sk T cs=some (y,T')):T'.objs.take T.objs.length=T.objs:=by
 unfold sk at h
 split at h
 ·injection h with h;injection h with _ h;subst h;simp
 ·cases h
theorem uZ {T T1:VT}{size k e:Nat}{bn:Bool}{s:TV}{es:List (List TV)}(h:cR T size s=some (es,k,e,bn,T1)):T1.objs=T.objs:=by
 unfold cR at h
 split at h
 ·injection h with h;simp only [Prod.mk.injEq] at h;obtain ⟨_,_,_,_,rfl⟩:=h;rfl
 ·split at h
  ·injection h with h;simp only [Prod.mk.injEq] at h;obtain ⟨_,_,_,_,rfl⟩:=h;rfl
  ·cases h
 ·split at h
  ·split at h
   ·injection h with h;simp only [Prod.mk.injEq] at h;obtain ⟨_,_,_,_,rfl⟩:=h;rfl
   ·cases h
  ·cases h
 ·cases h
theorem FI {T T':VT}{op:Op}{ev:Operand→TV}{y:TV}(h:jZ P T op ev=some (y,T')):T'.objs.take T.objs.length=T.objs:=by
 cases op<;>simp only [jZ] at h<;>try (cases h)
 case alloc e=>
  unfold mq at h
  split at h
  ·split at h
   ·exact zH h
   ·cases h
  ·cases h
 case box e x=>
  unfold Bv at h
  simp only [bind_eq_some_iff] at h
  obtain ⟨_,_,h⟩:=h
  exact zH h
 case buildSlice t n ps=>
  simp only [map_eq_some_iff] at h
  obtain ⟨y',h,e⟩:=h
  injection e with e1 e2;subst e2;simp
 case call c=>
  split at h
  ·unfold ir at h
   split at h
   ·split at h
    ·split at h
     ·split at h
      ·injection h with h;injection h with _ h;subst h
       rename_i h1 _ _ _
       simp [uZ h1]
      ·cases h
     ·cases h
    ·cases h
   ·cases h
  ·cases h
theorem En {ro:Nat}{g:Gh}{T T':VT}{w:World}(r:RW g T w){o:Oper}{ev:Operand→TV}{ρ:Operand→Value}{y:TV}(hf:oT ro o.op ev=true)(h:uY P T o.op ev=some (y,T'))(hev:∀x,VR g w (ev x) (ρ x)):
  ∃m v g' w',(execOp ρ o).run P w=.ok m w'∧iu m=some v∧VR g' w' y v∧Evo g w g' w'∧RW g' T' w'∧Fix ro g T w T' w':=by
 unfold uY at h
 split at h
 ·rename_i x hx
  injection h with h;injection h with e1 e2;subst e1 e2
  obtain ⟨v,h1,h2⟩:=Bu (P:=P) r hx hev
  exact ⟨_,v,g,w,h2 w (Same.refl _ _ _),rfl,h1,Evo.refl _ _,r,Fix.refl _ _ _ _⟩
 ·have mk:∀{y T'},jZ P T o.op ev=some (y,T')→∃m v g' w',(execOp ρ o).run P w=.ok m w'∧iu m=some v∧VR g' w' y v∧Evo g w g' w'∧RW g' T' w'∧Fix ro g T w T' w':=by
   intro y T' h
   obtain ⟨v,g',w',h1,h2,h3,h4,h5⟩:=BA r h hev
   exact ⟨_,v,g',w',h1,rfl,h2,h3,h4,Fix.of_same h5 (FI h)⟩
  rename_i hvr
  clear hvr
  obtain ⟨dst,op,ty,pos,af,gd⟩:=o
  simp only at h hf mk
  cases op<;>simp only [nR] at h<;>try (cases h)
  case alloc e=>exact mk (by simpa only [jZ] using h)
  case box e x=>exact mk (by simpa only [jZ] using h)
  case buildSlice t n ps=>exact mk (by simpa only [jZ] using h)
  case call c=>exact mk (show jZ P T (.call c) ev=some (y,T') from h)
  case build t ps=>
   simp only [map_eq_some_iff] at h
   obtain ⟨y',h,e⟩:=h
   injection e with e1 e2;subst e1 e2
   obtain ⟨h1,h2⟩:=sq hev ps
   obtain ⟨v,h3,h4⟩:=zF (P:=P) h h1 h2
   exact ⟨.value v,v,g,w,by simp [execOp,h4 w],rfl,h3,Evo.refl _ _,r,Fix.refl _ _ _ _⟩
  case store t a x=>
   simp only [oT] at hf
   split at hf
   ·rename_i id off ha
    rw [ha] at h
    have h1:=hev a
    rw [ha] at h1
    obtain ⟨g',w',h2,h3,h4,h5,h6⟩:=nh (ro:=ro) r h h1 (hev x) (Nat.le_of_ble_eq_true hf)
    exact ⟨.skip,undef,g',w',by simp [execOp,h2],rfl,h3,h4,h5,h6⟩
   ·cases hf
end
section
variable (P:Program)
def nw (sh:TypeId→Option KS):Nat→List Field→Option (List CK)
 |_,[]=>some []
 |i,f::fs=>match sh f.type,P.info? f.type with
  |some s,some inf=>bif decide (f.offset=i)&&decide (f.name≠ "_")&&decide (inf.size=s.ks.length) then (nw sh (i+s.ks.length) fs).map (s.ks++ ·) else none
  |_,_=>none
def zI:Nat→List CK→List CK
 | 0,_=> []
 |n+1,ks=>ks++zI n ks
def ny:Nat→TypeId→Option KS
 | 0,_=>none
 |n+1,t=>match P.underlying t with
  |some (.int k)=>some ⟨false,[.int k]⟩
  |some .bool=>some ⟨false,[.bool]⟩
  |some .string=>some ⟨false,[.str]⟩
  |some (.struct fs)=>bif P.stoodInHeld t || P.eqGuardType P.depth t then none else (nw P (ny n) 0 fs.toList).map (⟨true, ·⟩)
  |some (.array len e)=>match ny n e,P.info? e with
   |some s,some inf=>bif decide (inf.size=s.ks.length)&& !(P.eqGuardType P.depth t) then some ⟨true,zI len s.ks⟩ else none
   |_,_=>none
  |_=>none
end
section
variable {P:Program}{w:World}
theorem cS {s:KS}{v:Value}{cs:List Value}(h:s.agg=true)(hc:s.cells v=some cs):v=.agg cs.toArray:=by
 unfold KS.cells at hc
 rw [h] at hc
 cases v<;>simp at hc
 subst hc;simp
structure uq (P:Program) (d:Nat) (t:TypeId) (s:KS):Prop where
 one:s.agg=false→∃c,s.ks= [c]
 isA:∃ds,P.underlying t=some ds∧kS ds=s.agg
 eq:∀(m:Nat) (w:World) a b,s.fits a=true→s.fits b=true→(equalIn (d+m) t a b).run P w=.ok (aq a b) w
 chk:∀(m:Nat) (em:Bool) (w:World) a,s.fits a=true→(checkKey em (d+m) t a).run P w=.ok () w
 guard:s.agg=true→P.eqGuardType P.depth t=false
theorem dL {s:KS}{v:Value}(h:s.fits v=true):∃cs,s.cells v=some cs∧bk s.ks cs=true:=by
 unfold KS.fits at h
 split at h
 ·exact ⟨_,by assumption,h⟩
 ·cases h
theorem nA {s:KS}{v:Value}{cs:List Value}(h:s.cells v=some cs)(hf:bk s.ks cs=true):s.fits v=true:=by
 unfold KS.fits;rw [h];exact hf
theorem kA {d:Nat}{t:TypeId}{s:KS}{inf:TypeInfo}(ok:uq P d t s)(hi:P.info? t=some inf)(hz:inf.size=s.ks.length){xs:List Value}{off:Nat}
  (hf:bk s.ks ((xs.drop off).take s.ks.length)=true):∃v,(∀w:World,(part t xs.toArray off).run P w=.ok v w)∧s.cells v=some ((xs.drop off).take s.ks.length):=by
 obtain ⟨ds,hu,hag⟩:=ok.isA
 cases ha:s.agg with
 |true=>
  refine ⟨.agg ((xs.drop off).take s.ks.length).toArray,λw=> ?_,by simp [KS.cells,ha]⟩
  have hisA:(isAgg t).run P w=.ok true w:=by rw [kx hu,hag,ha]
  have hsz:(sizeOf t).run P w=.ok inf.size w:=bH hi w
  simp only [part,run_bind,hisA,andThen_ok,if_true,hsz,run_pure]
  rw [hz]
  congr 2
  simp only [List.extract_toArray]
  rw [List.extract_eq_take_drop]
  congr 2
  omega
 |false=>
  obtain ⟨c,hc⟩:=ok.one ha
  rw [hc] at hf ⊢
  have hl:=dv hf
  simp only [length_cons,length_nil] at hl
  cases hd:xs[off]? with
  |none=>
   have:=List.getElem?_eq_none_iff.1 hd
   simp at hl;omega
  |some v=>
   have e1:(xs.drop off).take 1= [v]:=by
    have hlt:=(List.getElem?_eq_some_iff.1 hd)
    obtain ⟨hlt,hv⟩:=hlt
    rw [List.drop_eq_getElem_cons hlt,take_succ_cons,List.take_zero,hv]
   refine ⟨v,λw=> ?_,?_⟩
   ·have hisA:(isAgg t).run P w=.ok false w:=by rw [kx hu,hag,ha]
    simp [part,hisA,hd]
   ·simp only [length_cons,length_nil,zero_add] at hf ⊢
    rw [e1] at hf ⊢
    simp only [bk,Bool.and_true] at hf
    cases v<;>simp [KS.cells,ha]<;>cases c<;>simp [CK.fit] at hf
theorem Eo {d:Nat}{sh:TypeId→Option KS}(hsh:∀t s,sh t=some s→uq P d t s)(m:Nat){xs ys:List Value}:∀(fs:List Field) (i:Nat) (ks:List CK),nw P sh i fs=some ks→bk ks (xs.drop i)=true→bk ks (ys.drop i)=true→
  ∀w:World,(Op.eqFields (d+m) xs.toArray ys.toArray fs).run P w=.ok (dH (xs.drop i) (ys.drop i)) w
 |[],i,ks,h,hx,hy,w=>by
  simp only [nw,Option.some.injEq] at h
  subst h
  have h1:=dv hx
  have h2:=dv hy
  simp only [length_nil,List.length_eq_zero_iff] at h1 h2
  rw [h1,h2]
  simp [Op.eqFields,dH]
 |f::fs,i,ks,h,hx,hy,w=>by
  simp only [nw] at h
  split at h
  ·rename_i s inf hs hi
   cases hb:(decide (f.offset=i)&&decide (f.name≠ "_")&&decide (inf.size=s.ks.length)) with
   |false=>rw [hb] at h;cases h
   |true=>
    rw [hb] at h
    simp only [and_eq_true,decide_eq_true_eq] at hb
    obtain ⟨⟨ho,hn⟩,hz⟩:=hb
    simp only [cond_true,map_eq_some_iff] at h
    obtain ⟨ks',h,rfl⟩:=h
    have ok:=hsh _ _ hs
    have fx:=gO hx
    have fy:=gO hy
    obtain ⟨a,pa,ca⟩:=kA ok hi hz fx.1
    obtain ⟨b,pb,cb⟩:=kA ok hi hz fy.1
    have e1:=ok.eq m w a b (nA ca fx.1) (nA cb fy.1)
    rw [jP ca cb] at e1
    have ih:=Eo hsh m fs (i+s.ks.length) ks' h (by rw [←drop_drop];exact fx.2) (by rw [←drop_drop];exact fy.2) w
    have hl:=(dv hx).trans (dv hy).symm
    have hl2:=dv hx
    simp only [length_append] at hl2
    rw [uX s.ks.length (by omega) hl]
    simp only [Op.eqFields,hn,ne_eq,not_false_eq_true,if_true,run_bind,pa,pb,ho,e1,andThen_ok]
    cases hq:dH ((xs.drop i).take s.ks.length) ((ys.drop i).take s.ks.length) with
    |false=>simp
    |true=>
     simp only [Bool.not_true,Bool.false_eq_true,if_false,cond_true]
     rw [drop_drop,drop_drop]
     exact ih
  ·cases h
theorem zJ {ks:List CK}:∀(n:Nat) (xs:List Value),bk (zI n ks) xs=true→∀j,j<n→bk ks ((xs.drop (j*ks.length)).take ks.length)=true
 | 0,_,_,j,hj=>by omega
 |n+1,xs,h,j,hj=>by
  simp only [zI] at h
  have:=gO h
  cases j with
  |zero=>simpa using this.1
  |succ j=>
   have:=zJ n _ this.2 j (by omega)
   rw [drop_drop] at this
   rw [succ_mul,Nat.add_comm];exact this
theorem Ep {d:Nat}{t:TypeId}{s:KS}{inf:TypeInfo}(ok:uq P d t s)(hi:P.info? t=some inf)(hz:inf.size=s.ks.length)(m:Nat){xs ys:List Value}:∀(n j:Nat),bk (zI n s.ks) (xs.drop (j*s.ks.length))=true→bk (zI n s.ks) (ys.drop (j*s.ks.length))=true→
  ∀w:World,(Op.eqItems (d+m) t (P.cellsOf t) xs.toArray ys.toArray (range' j n)).run P w=.ok (dH (xs.drop (j*s.ks.length)) (ys.drop (j*s.ks.length))) w
 | 0,j,hx,hy,w=>by
  have h1:=dv hx
  have h2:=dv hy
  simp only [zI,length_nil,List.length_eq_zero_iff] at h1 h2
  rw [h1,h2]
  simp [Op.eqItems,dH]
 |n+1,j,hx,hy,w=>by
  have hce:P.cellsOf t=s.ks.length:=by simp [Program.cellsOf,hi,hz]
  simp only [zI] at hx hy
  have fx:=gO hx
  have fy:=gO hy
  obtain ⟨a,pa,ca⟩:=kA ok hi hz fx.1
  obtain ⟨b,pb,cb⟩:=kA ok hi hz fy.1
  have e1:=ok.eq m w a b (nA ca fx.1) (nA cb fy.1)
  rw [jP ca cb] at e1
  have e2:(j+1)*s.ks.length=j*s.ks.length+s.ks.length:=succ_mul _ _
  have ih:=Ep ok hi hz m n (j+1) (by rw [e2,←drop_drop];exact fx.2) (by rw [e2,←drop_drop];exact fy.2) w
  have hl:=(dv hx).trans (dv hy).symm
  have hl2:=dv hx
  simp only [length_append] at hl2
  rw [uX s.ks.length (by omega) hl]
  simp only [List.range'_succ,Op.eqItems,hce,run_bind,pa,pb,e1,andThen_ok]
  cases hq:dH ((xs.drop (j*s.ks.length)).take s.ks.length) ((ys.drop (j*s.ks.length)).take s.ks.length) with
  |false=>simp
  |true=>
   simp only [Bool.not_true,Bool.false_eq_true,if_false,cond_true]
   rw [drop_drop,drop_drop,←e2]
   rw [hce] at ih
   exact ih
theorem jt:∀(n:Nat) (t:TypeId) (s:KS),ny P n t=some s→uq P n t s
 | 0,_,_,h=>by simp [ny] at h
 |n+1,t,s,h=>by
  have IH:=jt n
  unfold ny at h
  split at h
  ·rename_i k hu
   injection h with h;subst h
   refine ⟨λ_=>⟨_,rfl⟩,⟨_,hu,rfl⟩,λm w a b ha hb=> ?_,λm em w a ha=> ?_,λh=>by cases h⟩
   ·rw [add_right_comm]
    cases a<;>simp [KS.fits,KS.cells,bk,CK.fit] at ha
    cases b<;>simp [KS.fits,KS.cells,bk,CK.fit] at hb
    subst ha hb
    simp [equalIn,run_underlying hu,aq,cl]
   ·rw [add_right_comm]
    cases a<;>simp [KS.fits,KS.cells,bk,CK.fit] at ha
    simp [checkKey,run_underlying hu]
  ·rename_i hu
   injection h with h;subst h
   refine ⟨λ_=>⟨_,rfl⟩,⟨_,hu,rfl⟩,λm w a b ha hb=> ?_,λm em w a ha=> ?_,λh=>by cases h⟩
   ·rw [add_right_comm]
    cases a<;>simp [KS.fits,KS.cells,bk,CK.fit] at ha
    cases b<;>simp [KS.fits,KS.cells,bk,CK.fit] at hb
    simp [equalIn,run_underlying hu,aq,cl]
   ·rw [add_right_comm]
    cases a<;>simp [KS.fits,KS.cells,bk,CK.fit] at ha
    simp [checkKey,run_underlying hu]
  ·rename_i hu
   injection h with h;subst h
   refine ⟨λ_=>⟨_,rfl⟩,⟨_,hu,rfl⟩,λm w a b ha hb=> ?_,λm em w a ha=> ?_,λh=>by cases h⟩
   ·rw [add_right_comm]
    cases a<;>simp [KS.fits,KS.cells,bk,CK.fit] at ha
    cases b<;>simp [KS.fits,KS.cells,bk,CK.fit] at hb
    simp [equalIn,run_underlying hu,aq,cl]
   ·rw [add_right_comm]
    cases a<;>simp [KS.fits,KS.cells,bk,CK.fit] at ha
    simp [checkKey,run_underlying hu]
  ·rename_i fs hu
   cases hb:(P.stoodInHeld t || P.eqGuardType P.depth t) with
   |true=>rw [hb] at h;cases h
   |false=>
    rw [hb] at h
    simp only [Bool.or_eq_false_iff] at hb
    simp only [cond_false,map_eq_some_iff] at h
    obtain ⟨ks,hk,rfl⟩:=h
    have hfs:P.fieldsOf t=fs:=by simp [Program.fieldsOf,hu]
    refine ⟨λh=>(by cases h),⟨_,hu,rfl⟩,λm w a b ha hb2=> ?_,λm em w a ha=> ?_,λ_=>hb.2⟩
    ·obtain ⟨xs,cx,fx⟩:=dL ha
     obtain ⟨ys,cy,fy⟩:=dL hb2
     rw [jP cx cy,cS rfl cx,cS rfl cy,add_right_comm]
     rw [run_equalIn_struct w (n+m) t xs.toArray ys.toArray (by rw [hfs];exact hu) hb.1,hfs]
     simpa using Eo IH m fs.toList 0 ks hk (by simpa using fx) (by simpa using fy) w
    ·obtain ⟨xs,cx,fx⟩:=dL ha
     rw [cS rfl cx,add_right_comm,checkKey]
     simp only [run_bind,run_underlying hu,andThen_ok]
     rw [←Array.forIn_toList]
     have fx':bk ks (xs.drop 0)=true:=by simpa using fx
     clear fx ha cx hu hfs
     generalize (0:Nat)=i at hk fx'
     revert i ks
     generalize fs.toList=fl
     clear fs
     induction fl with
     |nil=>intro ks i _ _;simp
     |cons f fs ih=>
      intro ks i hk fx'
      simp only [nw] at hk
      split at hk
      ·rename_i s inf hs hi
       cases hb3:(decide (f.offset=i)&&decide (f.name≠ "_")&&decide (inf.size=s.ks.length)) with
       |false=>rw [hb3] at hk;cases hk
       |true=>
        rw [hb3] at hk
        simp only [and_eq_true,decide_eq_true_eq] at hb3
        obtain ⟨⟨ho,hn⟩,hz⟩:=hb3
        simp only [cond_true,map_eq_some_iff] at hk
        obtain ⟨ks',hk,rfl⟩:=hk
        have ok:=IH _ _ hs
        have f2:=gO fx'
        obtain ⟨a,pa,ca⟩:=kA ok hi hz f2.1
        have hc:=ok.chk m em w a (nA ca f2.1)
        simp only [List.forIn_cons,run_bind,hn,ne_eq,not_false_eq_true,if_true,ho,pa,hc,andThen_ok,run_pure]
        exact ih ks' (i+s.ks.length) hk (by rw [←drop_drop];exact f2.2)
      ·cases hk
  ·rename_i len e hu
   split at h
   ·rename_i se inf hs hi
    cases hb:(decide (inf.size=se.ks.length)&& !(P.eqGuardType P.depth t)) with
    |false=>rw [hb] at h;cases h
    |true=>
     rw [hb] at h
     simp only [and_eq_true,decide_eq_true_eq,Bool.not_eq_true'] at hb
     simp only [cond_true,Option.some.injEq] at h
     subst h
     have ok:=IH _ _ hs
     refine ⟨λh=>(by cases h),⟨_,hu,rfl⟩,λm w a b ha hb2=> ?_,λm em w a ha=> ?_,λ_=>hb.2⟩
     ·obtain ⟨xs,cx,fx⟩:=dL ha
      obtain ⟨ys,cy,fy⟩:=dL hb2
      rw [jP cx cy,cS rfl cx,cS rfl cy,add_right_comm]
      rw [run_equalIn_array w (n+m) xs.toArray ys.toArray hu hi,List.range_eq_range']
      have:=Ep ok hi hb.1 m len 0 (xs:=xs) (ys:=ys) (by simpa using fx) (by simpa using fy) w
      simpa using this
     ·obtain ⟨xs,cx,fx⟩:=dL ha
      rw [cS rfl cx,add_right_comm,checkKey]
      simp only [run_bind,run_underlying hu,andThen_ok]
      simp only [Std.Legacy.Range.forIn_eq_forIn_range',Std.Legacy.Range.size,Nat.sub_zero,Nat.add_one_sub_one,Nat.div_one]
      have each:∀j∈range' 0 len,bk se.ks ((xs.drop (j*se.ks.length)).take se.ks.length)=true:=by
       intro j hj
       simp only [List.mem_range'_1] at hj
       exact zJ len xs fx j (by omega)
      generalize range' 0 len=is at each
      induction is with
      |nil=>simp
      |cons j is ih=>
       have f1:=each j (by simp)
       obtain ⟨a,pa,ca⟩:=kA ok hi hb.1 f1
       have hc:=ok.chk m em w a (nA ca f1)
       simp only [List.forIn_cons,run_bind,bH hi,hb.1,andThen_ok,pa,hc,run_pure]
       exact ih (λy hy=>each y (by simp [hy]))
   ·cases h
  ·cases h
def dq (P:Program)(t:TypeId):Option KS:=ny P 6 t
theorem u3 {t:TypeId}{s:KS}(h:dq P t=some s){a b:Value}(ha:s.fits a=true)(hb:s.fits b=true)(w:World):(equal t a b).run P w=.ok (aq a b) w:=
 (jt 6 t s h).eq 9994 w a b ha hb
theorem dK {t:TypeId}{s:KS}(h:dq P t=some s){a:Value}(ha:s.fits a=true)(em:Bool)(w:World):(checkKey em 10000 t a).run P w=.ok () w:=
 (jt 6 t s h).chk 9994 em w a ha
end
end Go.Proofs.YtaijldpbpimdlaaGreatDoor