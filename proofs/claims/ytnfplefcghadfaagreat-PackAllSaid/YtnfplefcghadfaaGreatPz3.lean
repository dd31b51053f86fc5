/-Part 3 of the proof of packAll_holds:Vev,Vok,Vda ... No condition. -/
import Derived.Test.YtnfplefcghadfaaGreatPz1
import Derived.Test.YtnfplefcghadfaaGreatPz2
set_option maxRecDepth 100000
namespace Go.Proofs.YtnfplefcghadfaaGreat
section
open Go.RowKit

section
def Ct (P:Program):Op→Bool
 | .typeAssert .. | .move _ | .assign _ | .pick .. | .binOp .. | .unOp .. | .field .. | .fieldAddr .. | .indexAddr .. | .index .. | .slice .. | .extract .. | .build .. | .makeFunc .. | .makeInterface .. | .nilCheck _ | .sliceToArrayPointer .. =>true
 | .convert s d _=>match P.underlying s,P.underlying d with
  | some (.slice _),_=>false
  | _,some (.slice _)=>false
  | _,_=>true
 | _=>false
def isRead (P:Program):Op→Bool
 | .load .. | .lookup .. =>true
 | .convert s d _=>match P.underlying s,P.underlying d with
  | some (.slice _),some .string=>true
  | _,_=>false
 | .call c=>match c.callee with
  | .builtin .len | .builtin .cap | .builtin .min | .builtin .max=>true
  | _=>false
 | _=>false
def qE (q:Op→Bool) (ops:Array Oper) (listed:Array Bool):List Nat→Option Nat
 | []=>none
 | i::l=>cond (match ops[i]? with | some o=>q o.op&&Region.free .any ops listed i | none=>false) (some i) (qE q ops listed l)
def j5 (P:Program) (ops:Array Oper):Nat→Array Bool→List Nat→Option (List (Nat × PK))
 | 0,_,_=>some []
 | n+1,listed,pend=>match Region.ready .any ops listed with
  | []=>some []
  | r=>match qE (Ct P) ops listed r with
   | some i=>(j5 P ops n (listed.setIfInBounds i true) pend).map ((i, .pk0):: ·)
   | none=>match qE (isRead P) ops listed r with
    | some i=>(j5 P ops n (listed.setIfInBounds i true) (i::pend)).map ((i, .pk1):: ·)
    | none=>match r with
     | [i]=>cond (pend.all fun j=>nI ops ops.size i j) ((j5 P ops n (listed.setIfInBounds i true) []).map ((i, .pk3):: ·)) (match ops[i]? with
      | some ⟨_, .store ..,_,_,_,_⟩=>none
      | _=>(j5 P ops n (listed.setIfInBounds i true) pend).map ((i, .pk2):: ·))
     | _=>none
def fe (ops:Array Oper):List (Nat × PK)→List (Oper × PK)
 | []=> []
 | (i,k)::l=>match ops[i]? with
  | some o=>(o,k)::fe ops l
  | none=>fe ops l
def iy (P:Program) (ops:Array Oper):Option (List (Oper × PK)):=match j5 P ops ops.size (Array.replicate ops.size false) [] with
 | some p=>cond (Region.noSelect ops&&Nat.beq p.length ops.size&&jM ops p (Array.replicate ops.size false)) (some (fe ops p)) none
 | none=>none
def wq (ops:Array Oper):Bool:=ops.toList.all fun o=>b8 o.op

inductive FK where
 | own
 | turn (pend:List Nat)
 | bar
 | late
 | box (j:Nat)
 | put (pend:List Nat)
def G8:Op→Bool
 | .store .. =>true
 | _=>false
def wt:List Nat→List Nat→Bool
 | [], []=>true
 | a::l,b::m=>Nat.beq a b&&wt l m
 | _,_=>false
def isMkA:Op→Bool
 | .buildSlice .. =>true
 | _=>false
def MY (P:Program) (op:Op):Bool:=Ct P op || isRead P op || isMkA op
def fg (P:Program) (T:VT):Op→Option (TV × VT)
 | .alloc t=>i6 P T t
 | .makeMap t none=>iv P T t none
 | .makeSlice t (.const a) (.const b)=>jZ P T t (.val a) (.val b)
 | _=>none
def ma (P:Program) (o:Oper):Bool:=(fg P ⟨[], []⟩ o.op).isSome&&o.guard.isNone&&o.dst.isSome&&b8 o.op
def jN (P:Program) (op opj:Op) (ev:Operand→TV):Option (List TV):=match op,opj with
 | .alloc t, .store _ _ x=>match P.info? t,bF (ev x) with
  | some i,some new=>bif Nat.beq i.size new.length&&new.all eV then some new else none
  | _,_=>none
 | _,_=>none
def Cu (P:Program) (T:VT) (op opj:Op) (ev:Operand→TV):Option (TV × VT):=(jN P op opj ev).map fun new=>(.ptr T.objs.length 0,{T with objs:=T.objs++ [.cells new]})
def mc (P:Program) (o oj:Oper):Bool:=match o.dst,o.op,oj.op with
 | some d, .alloc t, .store t' (.tmp d') x=>Nat.beq d d' &&Nat.beq t t' &&oj.guard.isNone&&oj.dst.isNone&&(match x with
   | .tmp e=> !(Nat.beq e d)
   | _=>true)&&(match P.info? t with
   | some i=>match i.zero with
    | some z=>Nat.beq z.cells.size i.size
    | none=>false
   | none=>false)
 | _,_,_=>false
def yN (P:Program) (ops:Array Oper) (o:Oper):List Nat→Option Nat
 | []=>none
 | j::l=>cond (match ops[j]? with | some oj=>mc P o oj | none=>false) (some j) (yN P ops o l)
def md (P:Program) (ops:Array Oper):List Nat→List (Nat × Option Nat)
 | []=> []
 | i::l=>match ops[i]? with
  | some o=>cond (ma P o) ((i,yN P ops o (List.range ops.size))::md P ops l) (md P ops l)
  | none=>md P ops l
def bU:List (Nat × Option Nat)→List Nat
 | []=> []
 | (i,none)::l=>i::bU l
 | (i,some j)::l=>i::j::bU l
def dL:List Nat→Array Bool→Array Bool
 | [],V=>V
 | i::l,V=>dL l (V.setIfInBounds i true)
def mf (ops:Array Oper) (V:Array Bool) (j:Nat):Bool:=match ops[j]? with
 | some o=>o.after.toList.all fun e=> !Region.binds .any e || V.getD e.on false
 | none=>false
def boxStore (flo:List (Nat × Option Nat)) (k:Nat):Bool:=flo.any fun p=>match p.2 with
 | some j=>Nat.beq j k
 | none=>false
def pw (ops:Array Oper) (flo:List (Nat × Option Nat)) (V:Array Bool) (j:Nat):Bool:=match ops[j]? with
 | some o=>o.after.toList.all fun e=> !Region.binds .any e || V.getD e.on false || boxStore flo e.on
 | none=>false
def yO (P:Program) (ops:Array Oper):List Nat→Option Nat
 | []=>none
 | i::l=>cond (match ops[i]? with | some o=>MY P o.op | none=>false) (some i) (yO P ops l)
def og (ops:Array Oper):Bool:=(List.range ops.size).all fun i=>match ops[i]? with
 | some o=>match o.dst with
  | some d=> !(inList (o.looksAt ops) d)&&(List.range ops.size).all fun j=>Nat.beq j i || match ops[j]? with
   | some oj=>(match oj.dst with
     | some d' => !(Nat.beq d' d)
     | none=>true)&&(!(inList (oj.looksAt ops) d) || oj.after.toList.any fun e=>Region.binds .any e&&Nat.beq e.on i)
   | none=>true
  | none=>true
 | none=>true
def gC (i:Nat):List Nat→List Nat
 | []=> []
 | k::l=>bif Nat.beq k i then gC i l else k::gC i l
def bM (P:Program) (ops:Array Oper) (flo:List (Nat × Option Nat)) (F:List Nat):List (Nat × FK)→Array Bool→List Nat→Bool
 | [],V,_=>(Region.ready .any ops V).isEmpty
 | (i, .own)::l,V,pend=>inList (Region.ready .any ops V) i&& !(inList F i)&&(match ops[i]? with | some o=>b8 o.op | none=>false)&&bM P ops flo F l (V.setIfInBounds i true) (match ops[i]? with | some o=>bif isRead P o.op then i::pend else pend | none=>pend)
 | (i, .turn pe)::l,V,pend=>wt pe pend&&inList (Region.ready .any ops V) i&& !(inList F i)&&((Region.ready .any ops (dL F V)).all fun k=>Nat.beq k i || inList F k)&&bM P ops flo F l (V.setIfInBounds i true) pend
 | (i, .put pe)::l,V,pend=>wt pe pend&&inList (Region.ready .any ops V) i&& !(inList F i)&&((Region.ready .any ops (dL F V)).all fun k=>Nat.beq k i || inList F k)&&bM P ops flo F l (V.setIfInBounds i true) pend
 | (i, .bar)::l,V,pend=>inList (Region.ready .any ops V) i&& !(inList F i)&&((Region.ready .any ops (dL F V)).all fun k=>Nat.beq k i || inList F k)&&(pend.all fun k=>nI ops ops.size i k)&&bM P ops flo F l (V.setIfInBounds i true) []
 | (i, .late)::l,V,pend=>(flo.any fun p=>Nat.beq p.1 i&&p.2.isNone)&&inList (Region.ready .any ops V) i&&((Region.ready .any ops (dL (gC i F) V)).all fun k=>inList F k)&&bM P ops flo F l (V.setIfInBounds i true) pend
 | (i, .box j)::l,V,pend=>(flo.any fun p=>Nat.beq p.1 i&&match p.2 with | some j' =>Nat.beq j' j | none=>false)&&inList (Region.ready .any ops V) i&&mf ops (V.setIfInBounds i true) j&&((Region.ready .any ops (dL (gC j F) V)).all fun k=>inList F k)&&bM P ops flo F l ((V.setIfInBounds i true).setIfInBounds j true) pend
def Cv (P:Program) (ops:Array Oper) (flo:List (Nat × Option Nat)) (F:List Nat):Bool:=flo.all fun p=>match ops[p.1]? with
 | some o=>ma P o&&(match p.2 with
  | none=>true
  | some j=>match ops[j]? with
   | some oj=>mc P o oj&&(oj.after.toList.any fun e=>Region.binds .any e&&Nat.beq e.on p.1)&&(oj.after.toList.all fun e=> !Region.binds .any e || Nat.beq e.on p.1 || !(inList F e.on) || boxStore flo e.on)
   | none=>false)
 | none=>false
def rP:List Nat→Bool
 | []=>true
 | i::l=> !(inList l i)&&rP l
def px (D:List Nat) (m j:Nat):Bool:=match D[j]? with
 | some d=>Nat.beq (Nat.land d m) d
 | none=>false
def oh (D:List Nat) (m:Nat) (r:List Nat):List (Nat × Option Nat)→Option (Nat × Option Nat)
 | []=>none
 | (i,none)::l=>cond (inList r i) (some (i,none)) (oh D m r l)
 | (i,some j)::l=>cond (inList r i&&px D (Nat.lor m (dK i)) j) (some (i,some j)) (oh D m r l)
def AH (FM:Nat):List Nat→List Nat
 | []=> []
 | i::l=>bif eF FM i then AH FM l else i::AH FM l
def mg (n:Nat) (A:List Nat) (i:Nat):List Nat→Bool
 | []=>true
 | k::l=>EF n A i k&&mg n A i l
def Cw (P:Program) (ops:Array Oper) (i:Nat) (pend:List Nat):List Nat:=match ops[i]? with
 | some o=>bif isRead P o.op then i::pend else pend
 | none=>pend
def j6 (P:Program) (ops:Array Oper) (D A:List Nat) (flo:List (Nat × Option Nat)) (FM:Nat):Nat→Nat→List Nat→List (Nat × FK)
 | 0,_,_=> []
 | n+1,m,pend=>match cO 0 D m with
  | []=> []
  | r=>match yO P ops r with
   | some i=>(i, .own)::j6 P ops D A flo FM n (Nat.lor m (dK i)) (Cw P ops i pend)
   | none=>match AH FM r with
    | [i]=>bif mg ops.size A i pend then (i, .bar)::j6 P ops D A flo FM n (Nat.lor m (dK i)) [] else (i,match ops[i]? with | some o=>bif G8 o.op then .put pend else .turn pend | none=> .turn pend)::j6 P ops D A flo FM n (Nat.lor m (dK i)) pend
    | []=>match oh D m r flo with
     | some (i,none)=>(i, .late)::j6 P ops D A flo FM n (Nat.lor m (dK i)) pend
     | some (i,some j)=>(i, .box j)::j6 P ops D A flo FM n (Nat.lor (Nat.lor m (dK i)) (dK j)) pend
     | none=> []
    | _=> []
def cF (P:Program) (ops:Array Oper) (D A:List Nat) (flo:List (Nat × Option Nat)) (F:List Nat):List (Nat × FK)→Nat→List Nat→Bool
 | [],m,_=>(cO 0 D m).isEmpty
 | (i, .own)::l,m,pend=>inList (cO 0 D m) i&& !(inList F i)&&(match ops[i]? with | some o=>b8 o.op | none=>false)&&cF P ops D A flo F l (Nat.lor m (dK i)) (Cw P ops i pend)
 | (i, .turn pe)::l,m,pend=>wt pe pend&&inList (cO 0 D m) i&& !(inList F i)&&((cO 0 D (Nat.lor m (fX F))).all fun k=>Nat.beq k i || inList F k)&&cF P ops D A flo F l (Nat.lor m (dK i)) pend
 | (i, .put pe)::l,m,pend=>wt pe pend&&inList (cO 0 D m) i&& !(inList F i)&&((cO 0 D (Nat.lor m (fX F))).all fun k=>Nat.beq k i || inList F k)&&cF P ops D A flo F l (Nat.lor m (dK i)) pend
 | (i, .bar)::l,m,pend=>inList (cO 0 D m) i&& !(inList F i)&&((cO 0 D (Nat.lor m (fX F))).all fun k=>Nat.beq k i || inList F k)&&mg ops.size A i pend&&cF P ops D A flo F l (Nat.lor m (dK i)) []
 | (i, .late)::l,m,pend=>(flo.any fun p=>Nat.beq p.1 i&&p.2.isNone)&&inList (cO 0 D m) i&&((cO 0 D (Nat.lor m (fX (gC i F)))).all fun k=>inList F k)&&cF P ops D A flo F l (Nat.lor m (dK i)) pend
 | (i, .box j)::l,m,pend=>(flo.any fun p=>Nat.beq p.1 i&&match p.2 with | some j' =>Nat.beq j' j | none=>false)&&inList (cO 0 D m) i&&px D (Nat.lor m (dK i)) j&&((cO 0 D (Nat.lor m (fX (gC j F)))).all fun k=>inList F k)&&cF P ops D A flo F l (Nat.lor (Nat.lor m (dK i)) (dK j)) pend
def ej:Nat→List Oper→List (Nat × Nat)
 | _, []=> []
 | i,o::l=>match o.dst with
  | some d=>(d,i)::ej (i+1) l
  | none=>ej (i+1) l
def ol:List (Nat × Nat)→Nat→Option Nat
 | [],_=>none
 | p::l,s=>bif Nat.beq p.1 s then some p.2 else ol l s
def mS:List (Nat × Nat)→Nat→Bool
 | [],_=>true
 | p::l,m=>bif eF m p.1 then false else mS l (Nat.lor m (dK p.1))
def mh (W:List (Nat × Nat)) (d:Nat):List Nat→Bool
 | []=>true
 | s::l=>(match ol W s with
  | some i=>eF d i
  | none=>true)&&mh W d l
def rQ (ops:Array Oper) (W:List (Nat × Nat)):List Oper→Bool
 | []=>true
 | o::l=>mh W (cZ o.after.toList) (o.looksAt ops)&&rQ ops W l
def AI (ops:Array Oper):Bool:=mS (ej 0 ops.toList) 0&&rQ ops (ej 0 ops.toList) ops.toList
def rR (n:Nat):List Nat→Bool
 | []=>true
 | i::l=>Nat.ble (i+1) n&&rR n l
def yP (P:Program) (ops:Array Oper) (D A:List Nat) (flo:List (Nat × Option Nat)) (F:List Nat):Option (List (Nat × FK)):=
 cond (Region.noSelect ops&&dV ops&&AI ops&&rP F&&rR ops.size F&&Cv P ops flo F
  &&cF P ops D A flo F (j6 P ops D A flo (fX F) ops.size 0 []) 0 [])
  (some (j6 P ops D A flo (fX F) ops.size 0 [])) none
def om (P:Program) (ops:Array Oper) (flo:List (Nat × Option Nat)):Option (List (Nat × FK)):=yP P ops (fW ops.toList) (mR ops.toList 0 []) flo (bU flo)
def F9:List (Nat × Option Nat)→List (Nat × Option Nat)
 | []=> []
 | p::l=>(p.1,none)::F9 l
def tB (P:Program) (ops:Array Oper):List (Nat × Option Nat):=bif (om P ops (md P ops (List.range ops.size))).isSome then md P ops (List.range ops.size) else F9 (md P ops (List.range ops.size))
def iz (P:Program) (ops:Array Oper):Option (List (Nat × FK)):=om P ops (tB P ops)
def la (L:List Nat):Nat→List TV→List TV
 | _, []=> []
 | s,x::l=>(bif inList L s then x else .dead)::la L (s+1) l
def only (ops:Array Oper) (o:Oper) (σ:List TV):List TV:=la (o.looksAt ops) 0 σ
def py (o:Oper) (s:List TV):TV:=match o.dst with
 | some d=>s.getD d .dead
 | none=> .dead
def bW (ops:Array Oper) (σ:List TV) (o:Oper):Option Bool:=match o.guard with
 | none=>some true
 | some (j,want)=>match vW ops σ j with
  | some (some b)=>some (bif want then b else !b)
  | some none=>some false
  | none=>none
theorem EH {ops:Array Oper} {σ:List TV} {o:Oper} {b:Bool} (h:bW ops σ o=some b):pj ops σ o=some b:=by
 unfold bW at h
 unfold pj
 split at h
 ·rename_i hg;rw [hg];exact h
 ·rename_i j want hg
  rw [hg]
  simp only
  split at h
  ·rename_i c hc;rw [hc];injection h with h;subst h;cases c<;>cases want<;>rfl
  ·rename_i hc;rw [hc];injection h with h;subst h;rfl
  ·cases h
def fB (ops:Array Oper) (o:Oper) (σ:List TV) (X:List TV→Prop):Prop:=match o.guard with
 | none=>X σ
 | some (j,_)=>match (ops[j]?).bind (·.dst) with
  | none=>X σ
  | some d=>match σ.getD d .dead with
   | .val (.bool b)=>cond b (X (σ.set d (.val (.bool true)))) (X (σ.set d (.val (.bool false))))
   | _=>X σ
theorem dZ {ops:Array Oper} {o:Oper} {σ:List TV} {X:List TV→Prop} (h:fB ops o σ X):X σ:=by
 unfold fB at h
 split at h
 ·exact h
 ·split at h
  ·exact h
  ·rename_i d _
   split at h
   ·rename_i b hb
    have key:σ.set d (.val (.bool b))=σ:=by
     apply List.ext_getElem?
     intro i
     rw [List.getElem?_set]
     split
     ·rename_i e;subst e
      rw [List.getD_eq_getElem?_getD] at hb
      split
      ·rename_i hl
       rw [List.getElem?_eq_getElem hl] at hb ⊢
       simpa using hb.symm
      ·rename_i hl;rw [List.getElem?_eq_none (by omega)]
     ·rfl
    cases b with
    | true=>rw [key] at h;exact h
    | false=>rw [key] at h;exact h
   ·exact h
def ay (_:Nat) (_:Op) (_:List TV):Prop:=False
def AJ (P:Program) (ro:Nat) (T:VT) (f:FuncId) (xs:List TV):Option (TV × VT):=match P.funcs[f]? with
 | some fn=>bif fn.body.isNone then Ev P ro T fn xs else none
 | none=>none
def eX (σ:List TV):List Operand→List (Nat × TV)
 | []=> []
 | .tmp t::l=>(t,σ.getD t .dead)::eX σ l
 | _::l=>eX σ l
def bX:List (Nat × TV)→Nat→TV
 | [],_=> .dead
 | (t,x)::l,s=>bif Nat.beq t s then x else bX l s
def bb (G:aK) (l:List (Nat × TV)):Operand→TV
 | .tmp t=>bX l t
 | x=>aT G [] x
abbrev fq:=Oper→List TV→VT→Option (TV × Option VT)
def aY:fq:=fun _ _ _=>none
def rS (P:Program) (T0:VT) (ph:Bool) (op:Op) (ev:Operand→TV):Option TV:=match bq P op ev with
 | some x=>some x
 | none=>bif ph then wd P T0 op ev else bf P T0 op ev
inductive ax (P:Program) (G:aK) (op:Op) (l:List (Nat × TV)) (y:TV):Prop
 | mk (h:bq P op (bb G l)=some y)
inductive MZ (P:Program) (G:aK) (T0:VT) (ph:Bool) (op:Op) (l:List (Nat × TV)) (y:TV):Prop
 | mk (h:rS P T0 ph op (bb G l)=some y)
inductive aB (P:Program) (G:aK) (ro:Nat) (T:VT) (op:Op) (l:List (Nat × TV)) (y:TV) (T' :VT):Prop
 | mk (h:fw P ro T op (bb G l)=some (y,T'))
 | old (hf:mJ ro op (bb G l)=true) (h:rD P T op (bb G l)=some (y,T'))
 | ent (it:Operand) (ho:op= .entry it) (ht:T' =T) (h:rN T (bb G l it)=some y)
inductive M0 (P:Program) (T0:VT) (s d:TypeId) (x y:TV):Prop
 | mk (h0:ce x=none) (h:fv P T0 s d x=some y)
inductive M1 (P:Program) (T0:VT) (t:TypeId) (m k:TV) (ok:Bool) (y:TV):Prop
 | mk (h:dG P T0 t m k ok=some y)
abbrev fY:=Nat→FuncId→List TV→VT→(TV→VT→Prop)→Prop
abbrev g9:=Nat→Nat→List TV→VT→(TV→VT→Prop)→Prop
section
variable (P:Program) (G:aK) (F:fq) (call:fY) (rnd:g9)
def EI (ro:Nat) (o:Oper) (σ:List TV) (T:VT) (K:List TV→VT→Prop):Prop:=match o.op with
 | .next it false=>match wl T (aT G σ it) with
  | some (i,l)=>cond (Nat.ble ro i) (AE (fun p=>K (bu σ o.dst p.1) p.2) l) (ay 3 o.op [])
  | none=>ay 2 o.op [aT G σ it]
 | .entry it=>match rN T (aT G σ it) with
  | some y=>K (bu σ o.dst y) T
  | none=>ay 2 o.op [aT G σ it]
 | .range t x=>match wk P T t (aT G σ x) with
  | some (y,T')=>K (bu σ o.dst y) T'
  | none=>ay 2 o.op [aT G σ x]
 | .binOp op t x y ty=>cond (vy P op t (aT G σ x) (aT G σ y)) (K (bu σ o.dst (.val (.bool true))) T∧K (bu σ o.dst (.val (.bool false))) T) (match fw P ro T (.binOp op t x y ty) (aT G σ) with
  | some (y,T')=>K (bu σ o.dst y) T'
  | none=>ay 2 o.op [aT G σ x,aT G σ y])
 | op=>match fw P ro T op (aT G σ) with
  | some (y,T')=>K (bu σ o.dst y) T'
  | none=>ay 2 op (op.operands.toList.map (aT G σ))
def EJ (ro:Nat) (o:Oper) (σ:List TV) (T:VT) (K:List TV→VT→Prop):Prop:=match F o (o.op.operands.toList.map (aT G σ)) T with
 | some (y,none)=>ax P G o.op (eX σ o.op.operands.toList) y∧K (bu σ o.dst y) T
 | some (y,some T')=>aB P G ro T o.op (eX σ o.op.operands.toList) y T' ∧K (bu σ o.dst y) T'
 | none=>EI P G ro o σ T K
def mT (ro:Nat) (o:Oper) (σ:List TV) (T:VT) (K:List TV→VT→Prop):Prop:=match o.op with
 | .call ⟨.value fo,args,_⟩=>match aT G σ fo with
  | .fn (.func f) fi ca=>match AJ P ro T f (fi++args.toList.map (aT G σ)++ca) with
   | some (y,T')=>K (bu σ o.dst y) T'
   | none=>call ro f (fi++args.toList.map (aT G σ)++ca) T fun x T' =>K (bu σ o.dst x) T'
  | .yld id=>rnd ro id (args.toList.map (aT G σ)) T fun x T' =>K (bu σ o.dst x) T'
  | x=>ay 1 o.op [x]
 | _=>EJ P G F ro o σ T K
def tC (ro:Nat) (ops:Array Oper):List Oper→List TV→VT→(List TV→VT→Prop)→Prop
 | [],σ,T,K=>K σ T
 | o::l,σ,T,K=>fB ops o σ fun σ=>match bW ops σ o with
  | some b=>cond b (mT P G F call rnd ro o σ T fun σ' T' =>tC ro ops l σ' T' K) (tC ro ops l (bu σ o.dst (.val undef)) T K)
  | none=>ay 4 o.op []
def dq (ro:Nat) (ops:Array Oper):VT→Bool→List (Oper × PK)→List TV→VT→(List TV→VT→Prop)→Prop
 | _,_, [],σ,T,K=>K σ T
 | T0,ph,(o, .pk0)::l,σ,T,K=>fB ops o σ fun σ=>match bW ops σ o with
  | some b=>cond b (match F o (o.op.operands.toList.map (aT G σ)) T with
   | some (y,none)=>ax P G o.op (eX σ o.op.operands.toList) y∧dq ro ops T0 ph l (bu σ o.dst y) T K
   | some (_,some _)=>ay 27 o.op []
   | none=>match bq P o.op (aT G σ) with
    | some x=>dq ro ops T0 ph l (bu σ o.dst x) T K
    | none=>ay 5 o.op (o.op.operands.toList.map (aT G σ))) (dq ro ops T0 ph l (bu σ o.dst (.val undef)) T K)
  | none=>ay 4 o.op []
 | T0,ph,(o, .pk1)::l,σ,T,K=>fB ops o σ fun σ=>match bW ops σ o with
  | some b=>cond b (match F o (o.op.operands.toList.map (aT G σ)) T with
   | some (y,none)=>MZ P G T0 ph o.op (eX σ o.op.operands.toList) y∧dq ro ops T0 ph l (bu σ o.dst y) T K
   | some (_,some _)=>ay 27 o.op []
   | none=>match rS P T0 ph o.op (aT G σ) with
    | some x=>dq ro ops T0 ph l (bu σ o.dst x) T K
    | none=>ay 5 o.op (o.op.operands.toList.map (aT G σ))) (dq ro ops T0 ph l (bu σ o.dst (.val undef)) T K)
  | none=>ay 4 o.op []
 | T0,_,(o, .pk2)::l,σ,T,K=>fB ops o σ fun σ=>match bW ops σ o with
  | some b=>cond b (mT P G F call rnd T0.objs.length o σ T fun σ' T' =>dq ro ops T0 true l σ' T' K) (dq ro ops T0 true l (bu σ o.dst (.val undef)) T K)
  | none=>ay 4 o.op []
 | _,_,(o, .pk3)::l,σ,T,K=>fB ops o σ fun σ=>match bW ops σ o with
  | some b=>cond b (mT P G F call rnd ro o σ T fun σ' T' =>dq ro ops T' false l σ' T' K) (dq ro ops T false l (bu σ o.dst (.val undef)) T K)
  | none=>ay 4 o.op []
def rU (P:Program) (ro:Nat) (T:VT) (t:TypeId) (a x:TV):Option VT:=match l7 P ro T t a x with
 | some (_,T')=>some T'
 | none=>match a with
  | .ptr id off=>bif Nat.ble ro id then (nV P T t (.ptr id off) x).map (·.2) else none
  | _=>none
def apartRead (P:Program) (id off n:Nat) (op:Op) (ev:Operand→TV):Bool:=match op with
 | .load t a=>match ev a with
  | .ptr id' off' => !(Nat.beq id' id) || (match P.info? t with
   | some i=>Nat.ble (off' +max i.size 1) off || Nat.ble (off+n) off'
   | none=>false)
  | .elt _=>true
  | _=>false
 | .lookup _ m _ _=>match ev m with
  | .map id' => !(Nat.beq id' id)
  | _=>false
 | .call c=>match c.callee,c.args.toList with
  | .builtin .len, [x]=>(match ev x with
   | .map id' => !(Nat.beq id' id)
   | _=>false)
  | _,_=>false
 | _=>false
def VT.takeO (T:VT) (n:Nat):VT:={T with objs:=T.objs.take n}
def AK (P:Program) (G:aK) (T0:VT) (o:Oper) (s:List TV) (y:TV):Prop:=match o.op with
 | .convert t d x=>bif isRead P (.convert t d x) then M0 P T0 t d (aT G s x) y else ax P G o.op (eX s o.op.operands.toList) y
 | .lookup t m k ok=>M1 P T0 t (aT G s m) (aT G s k) ok y
 | _=>ax P G o.op (eX s o.op.operands.toList) y
def AL (P:Program) (T0:VT) (op:Op) (ev:Operand→TV):Option TV:=match bq P op ev with
 | some x=>some x
 | none=>match (bif isRead P op then bf P T0 op ev else none) with
  | some x=>some x
  | none=>match op with
   | .buildSlice t n ps=>(gv P ⟨[], []⟩ (.buildSlice t n ps) ev).map (·.1)
   | _=>none
def cN (ops:Array Oper) (flo:List (Nat × Option Nat)) (V:Array Bool) (σ:List TV):List (Nat × Option Nat)→Bool
 | []=>true
 | (_,none)::l=>cN ops flo V σ l
 | (i,some j)::l=>(V.getD i false || !(pw ops flo (V.setIfInBounds i true) j) || (match ops[i]?,ops[j]? with
  | some o,some oj=>(jN P o.op oj.op (aT G (only ops oj σ))).isSome&&(match o.dst with
   | some d=>Nat.ble (d+1) σ.length
   | none=>false)
  | _,_=>false))&&cN ops flo V σ l
def lb (ops:Array Oper) (id off n:Nat) (σ:List TV):List Nat→Bool
 | []=>true
 | k::l=>(match ops[k]? with
  | some o=>(match bW ops (only ops o σ) o with
   | some true=>(bq P o.op (aT G (only ops o σ))).isSome || apartRead P id off n o.op (aT G (only ops o σ))
   | some false=>true
   | none=>false)
  | none=>false)&&lb ops id off n σ l
def mU (ops:Array Oper) (T0 T1:VT) (σ:List TV):List Nat→Bool
 | []=>true
 | k::l=>(match ops[k]? with
  | some o=>(match bW ops (only ops o σ) o with
   | some true=>(bq P o.op (aT G (only ops o σ))).isSome || (match bf P T0 o.op (aT G (only ops o σ)),bf P T1 o.op (aT G (only ops o σ)) with
    | some x,some y=>fA x y
    | none,_=>true
    | _,none=>false)
   | some false=>true
   | none=>false)
  | none=>false)&&mU ops T0 T1 σ l
def mV (ops:Array Oper) (T0 T1:VT) (σ:List TV):List Nat→Prop
 | []=>True
 | k::l=>(match ops[k]? with
  | some o=>(match bW ops (only ops o σ) o with
   | some true=>cond (bq P o.op (aT G (only ops o σ))).isSome True (bf P T0 o.op (aT G (only ops o σ))=bf P T1 o.op (aT G (only ops o σ)))
   | some false=>True
   | none=>False)
  | none=>False)∧mV ops T0 T1 σ l
def Oe:Bool:=(F ⟨some 999998, .move (.tmp 0),0, "", #[],none⟩ [] ⟨[], []⟩).isSome
def cm (ro:Nat) (ops:Array Oper) (flo:List (Nat × Option Nat)):Array Bool→VT→List (Nat × FK)→List TV→VT→(List TV→VT→Prop)→Prop
 | _,_, [],σ,T,K=>K σ T
 | V,T0,(i, .own)::l,σ,T,K=>match ops[i]? with
  | some o=>fB ops o σ fun σ=>match bW ops (only ops o σ) o with
   | some b=>cond b (match F o (o.op.operands.toList.map (aT G σ)) T with
    | some (y,none)=>AK P G T0 o (only ops o σ) y∧cm ro ops flo (V.setIfInBounds i true) T0 l (bu σ o.dst y) T K
    | some (_,some _)=>ay 27 o.op []
    | none=>match AL P T0 o.op (aT G (only ops o σ)) with
     | some y=>cm ro ops flo (V.setIfInBounds i true) T0 l (bu σ o.dst y) T K
     | none=>ay 5 o.op (o.op.operands.toList.map (aT G σ))) (cm ro ops flo (V.setIfInBounds i true) T0 l (bu σ o.dst (.val undef)) T K)
   | none=>ay 4 o.op []
  | none=>ay 4 default []
 | V,T0,(i, .turn pe)::l,σ,T,K=>match ops[i]? with
  | some o=>fB ops o σ fun σ=>match bW ops (only ops o σ) o with
   | some b=>cond (cN P G ops flo V σ flo) (cond b (mT P G F call rnd ro o (only ops o σ) T fun s T' =>cond (Oe F) (mV P G ops T0 (T'.takeO T0.objs.length) σ pe∧cm ro ops flo (V.setIfInBounds i true) (T'.takeO T0.objs.length) l (bu σ o.dst (py o s)) T' K) (cond (mU P G ops T0 (T'.takeO T0.objs.length) σ pe) (cm ro ops flo (V.setIfInBounds i true) (T'.takeO T0.objs.length) l (bu σ o.dst (py o s)) T' K) (ay 30 o.op []))) (cm ro ops flo (V.setIfInBounds i true) (T.takeO T0.objs.length) l (bu σ o.dst (.val undef)) T K)) (ay 28 o.op [])
   | none=>ay 4 o.op []
  | none=>ay 4 default []
 | V,T0,(i, .put pe)::l,σ,T,K=>match ops[i]? with
  | some o=>fB ops o σ fun σ=>match bW ops (only ops o σ) o with
   | some b=>cond (cN P G ops flo V σ flo) (cond b (match o.op with
    | .store t a x=>(match aT G (only ops o σ) a,bF (aT G (only ops o σ) x) with
     | .ptr id off,some new=>(match rU P ro T t (.ptr id off) (aT G (only ops o σ) x) with
      | some T' =>cond (lb P G ops id off new.length σ pe) (cm ro ops flo (V.setIfInBounds i true) (T'.takeO T0.objs.length) l (bu σ o.dst (py o (bu (only ops o σ) o.dst (.val undef)))) T' K) (ay 29 o.op [aT G σ a])
      | none=>ay 2 o.op [aT G σ a,aT G σ x])
     | _,_=>ay 2 o.op [aT G σ a,aT G σ x])
    | _=>ay 4 o.op []) (cm ro ops flo (V.setIfInBounds i true) (T.takeO T0.objs.length) l (bu σ o.dst (.val undef)) T K)) (ay 28 o.op [])
   | none=>ay 4 o.op []
  | none=>ay 4 default []
 | V,_,(i, .bar)::l,σ,T,K=>match ops[i]? with
  | some o=>fB ops o σ fun σ=>match bW ops (only ops o σ) o with
   | some b=>cond (cN P G ops flo V σ flo) (cond b (mT P G F call rnd ro o (only ops o σ) T fun s T' =>cm ro ops flo (V.setIfInBounds i true) T' l (bu σ o.dst (py o s)) T' K) (cm ro ops flo (V.setIfInBounds i true) T l (bu σ o.dst (.val undef)) T K)) (ay 28 o.op [])
   | none=>ay 4 o.op []
  | none=>ay 4 default []
 | V,T0,(i, .late)::l,σ,T,K=>match ops[i]? with
  | some o=>match fg P T o.op with
   | some (y,T')=>cond (cN P G ops flo V σ flo) (cm ro ops flo (V.setIfInBounds i true) T0 l (bu σ o.dst y) T' K) (ay 28 o.op [])
   | none=>ay 2 o.op []
  | none=>ay 4 default []
 | V,T0,(i, .box j)::l,σ,T,K=>match ops[i]?,ops[j]? with
  | some o,some oj=>match Cu P T o.op oj.op (aT G (only ops oj σ)) with
   | some (y,T')=>cond (cN P G ops flo V σ flo) (cm ro ops flo ((V.setIfInBounds i true).setIfInBounds j true) T0 l (bu σ o.dst y) T' K) (ay 28 o.op [])
   | none=>ay 2 o.op []
  | _,_=>ay 4 default []
def AM:List (Oper × PK)→Bool
 | []=>false
 | (_, .pk2)::_=>true
 | _::l=>AM l
def tD (ops:Array Oper):Option (List (Oper × PK)):=match iy P ops with
 | some p=>cond (AM p&&(iz P ops).isSome) none (some p)
 | none=>none
def tE (ops:Array Oper):Option (List (Oper × PK)):=bif (F ⟨some 999999, .move (.tmp 0),0, "", #[],none⟩ [] ⟨[], []⟩).isSome then iy P ops else bif Nat.ble ops.size 12 then tD P ops else none
def AN (ro:Nat) (ops:Array Oper) (σ:List TV) (T:VT) (K:List TV→VT→Prop):Prop:=cond (wq ops) (match tE P F ops with
 | some p=>dq P G F call rnd ro ops T false p σ T K
 | none=>match iz P ops with
  | some p=>cm P G F call rnd (min ro T.objs.length) ops (tB P ops) (Array.replicate ops.size false) T p σ T K
  | none=>match iy P ops with
   | some p=>dq P G F call rnd ro ops T false p σ T K
   | none=>match ops.toList.getLast?,iz P ops.toList.dropLast.toArray with
    | some t,some p=>cond (t.guard.isNone&&Nat.beq (cZ t.after.toList) (2^ops.toList.dropLast.toArray.size-1))
      (cm P G F call rnd (min ro T.objs.length) ops.toList.dropLast.toArray (tB P ops.toList.dropLast.toArray) (Array.replicate ops.toList.dropLast.toArray.size false) T p σ T fun σ' T' =>mT P G F call rnd (min ro T.objs.length) t σ' T' K) (ay 16 t.op [])
    | _,_=>ay 6 (ops.toList.getLastD default).op []) (ay 15 default σ)
end
abbrev aM:=Nat→List TV→VT→(TV→VT→Prop)→Prop
abbrev br:=Option Nat→Nat→List TV→VT→List Nat→KX→Prop
def mW (k:List TV→VT→List Nat→Prop) (K:KX):KX
 | .normal,σ,T,D=>k σ T D
 | e,σ,T,D=>K e σ T D
def oq (id:Nat) (K:KX):KX
 | .exit id',σ,T,D=>cond (Nat.beq id' id) (K .normal σ T D) (K (.exit id') σ T D)
 | e,σ,T,D=>K e σ T D
def Cx (K:KX):KX
 | .goto _,σ,_,_=>ay 8 default σ
 | e,σ,T,D=>K e σ T D
def mj (ro:Nat):List Nat→VT→Option VT
 | [],T=>some T
 | id::D,T=>match T.objs[id]? with
  | some .defd=>bif Nat.ble ro id then mj ro D (T.kill id) else none
  | _=>none
def rV (P:Program) (fn:Func) (ro:Nat) (σ:List TV) (T:VT) (D:List Nat) (K:TV→VT→Prop):Prop:=match mj ro D T with
 | some T' =>match jX P T' σ fn.results with
  | some x=>K x T'
  | none=>ay 7 default σ
 | none=>ay 16 default σ
def AO (P:Program) (fn:Func) (ro:Nat) (K:TV→VT→Prop):KX
 | .normal,σ,T,D=>rV P fn ro σ T D K
 | .ret,σ,T,D=>rV P fn ro σ T D K
 | _,σ,_,_=>ay 9 default σ
def wu (fn:Func) (xs:List TV):List TV:=xs++List.replicate (fn.ntmps-xs.length) (.val undef)
abbrev tF:=Option Nat→Nat→Code→List TV→VT→List Nat→KX→Prop
def iA (P:Program) (C:FuncId→Option aM) (run:tF):fY:=fun ro f xs T K=>match P.funcs[f]? with
 | some fn=>match fn.body with
  | some c=>match C f with
   | some W=>W ro xs T K
   | none=>run none ro c (wu fn xs) T [] (AO P fn ro K)
  | none=>ay 10 default [.val (.int .i64 f)]
 | none=>ay 11 default [.val (.int .i64 f)]
def VT.setLoop (T:VT) (id:Nat) (st:LoopState) (pend:Option Code) (σ:List TV) (ps:Array Tmp) (asg body:Code):VT:={T with objs:=T.objs.set id (.loop st pend σ ps asg body)}
def jO:List Tmp→List TV→List TV→List TV
 | p::ps,x::xs,σ=>jO ps xs (σ.set p x)
 | _,_,σ=>σ
def gM (ro id:Nat) (st:LoopState) (pend:Option Code) (T:VT) (K:VT→Prop):Prop:=match T.objs[id]? with
 | some (.loop _ _ σ ps asg body)=>cond (Nat.ble ro id) (K (T.setLoop id st pend σ ps asg body)) (ay 17 default [])
 | _=>ay 18 default []
def Cy (ro id:Nat) (K:TV→VT→Prop):KX
 | .normal,_,T,_=>gM ro id .ready none T fun T=>K (.val (.bool true)) T
 | .ret,_,T,_=>gM ro id .done (some .ret) T fun T=>K (.val (.bool false)) T
 | .exit x,_,T,_=>gM ro id .done (some (.exit x)) T fun T=>K (.val (.bool false)) T
 | _,σ,_,_=>ay 19 default σ
def ot (run:tF):g9:=fun ro id xs T K=>match T.objs[id]? with
 | some (.loop .ready none σ ps asg body)=>cond (Nat.ble ro id&&Nat.beq ps.size xs.length) (run (some id) ro asg (jO ps.toList xs σ) T [] fun e σ1 T1 D1=>match e with
  | .normal=>match T1.objs[id]? with
   | some (.loop .ready none σ' ps' asg' body')=>run (some id) ro body σ1 (T1.setLoop id .busy none σ' ps' asg' body') D1 (Cy ro id K)
   | _=>ay 20 default σ1
  | _=>ay 21 default σ1) (ay 22 default xs)
 | _=>ay 23 default xs
def fC (ro id:Nat) (σ:List TV) (D:List Nat) (K:KX) (T:VT):Prop:=match T.objs[id]? with
 | some (.loop .ready none σ' ps asg body)=>cond (Nat.ble ro id) (K .normal σ (T.setLoop id .exhausted none σ' ps asg body) D) (ay 17 default [])
 | some (.loop .done (some .ret) σ' ps asg body)=>cond (Nat.ble ro id) (K .ret σ (T.setLoop id .exhausted (some .ret) σ' ps asg body) D) (ay 17 default [])
 | some (.loop .done (some (.exit x)) σ' ps asg body)=>cond (Nat.ble ro id) (K (.exit x) σ (T.setLoop id .exhausted (some (.exit x)) σ' ps asg body) D) (ay 17 default [])
 | _=>ay 24 default σ
def vx (P:Program) (G:aK) (C:FuncId→Option aM) (F:fq):Nat→(Nat→Option (br × Code))→tF
 | 0,_,_,_,_,σ,_,_,_=>ay 12 default σ
 | n+1,L,rd,ro,c,σ,T,D,K=>match c with
  | .skip=>K .normal σ T D
  | .exit id=>K (.exit id) σ T D
  | .ret=>K .ret σ T D
  | .seq a b=>vx P G C F n L rd ro a σ T D (mW (fun σ T D=>vx P G C F n L rd ro b σ T D K) K)
  | .cond c x y=>match aT G σ c with
   | .val (.bool b)=>cond b (vx P G C F n L rd ro x σ T D K) (vx P G C F n L rd ro y σ T D K)
   | x=>ay 13 default [x]
  | .block id c=>match L id with
   | some (W,c')=>c' = .block id c∧W rd ro σ T D K
   | none=>vx P G C F n L rd ro c σ T D (oq id K)
  | .scope c=>vx P G C F n L rd ro c σ T D (Cx K)
  | .loop c=>vx P G C F n L rd ro c σ T D (mW (fun σ T D=>vx P G C F n L rd ro (.loop c) σ T D K) K)
  | .region id ops d=>match L (1000000+id) with
   | some (W,c')=>c' = .region id ops d∧W rd ro σ T D K
   | none=>cond d (AN P G F (iA P C (vx P G C aY n fun _=>none)) (ot (vx P G C aY n fun _=>none)) ro ops σ T fun σ T=>K .normal σ T D)
    (tC P G F (iA P C (vx P G C aY n fun _=>none)) (ot (vx P G C aY n fun _=>none)) ro ops ops.toList σ T fun σ T=>K .normal σ T D)
  | .rangeFunc f ps asg body=>match aT G σ f with
   | .fn (.func fi) first ca=>match rd with
    | none=>iA P C (vx P G C aY n fun _=>none) ro fi (first++ [.yld (T.objs.length+1)]++ca) {T with objs:=T.objs++ [.defd]++ [.loop .ready none σ ps asg body]} fun _ T' =>fC ro (T.objs.length+1) σ (T.objs.length::D) K T'
    | some i0=>match T.objs[i0]? with
     | some (.loop ..)=>iA P C (vx P G C aY n fun _=>none) ro fi (first++ [.yld T.objs.length]++ca) {T with objs:=T.objs++ [.loop .ready none σ ps asg body]} fun _ T' =>fC ro T.objs.length σ D K T'
     | _=>ay 26 default σ
   | x=>ay 25 default [x]
  | .label _=>K .normal σ T D
  | _=>ay 14 default σ
def aq (P:Program) (G:aK) (C:FuncId→Option aM) (F:fq) (n:Nat) (L:Nat→Option (br × Code)) (ro:Nat) (f:FuncId) (xs:List TV) (T:VT) (K:TV→VT→Prop):Prop:=match P.funcs[f]? with
 | some fn=>match fn.body with
  | some c=>vx P G C F n L none ro c (wu fn xs) T [] (AO P fn ro K)
  | none=>False
 | none=>False
end
end
section
open Go.RowKit

section
variable {P:Program} {G:aK} {F:fq}
def fD (P:Program) (G:aK) (call:fY):Prop:=∀ro f xs T K,call ro f xs T K→∃fn,P.funcs[f]?=some fn∧fn.body.isSome=true∧(fn.name== "runtime.NumGoroutine")=false∧VCx P G ro f xs T K
def gN (P:Program) (G:aK) (rnd:g9):Prop:=∀ro id xs T K,rnd ro id xs T K→NO P G ro id xs T K
theorem VPi.of {ro:Nat} {o:Oper} {σ:List TV} {T:VT} {K:List TV→VT→Prop} (hd:b8 o.op=true)
  (h:∀g w ρ,RW g T w→(∀x,VR g w (aT G σ x) (ρ x))→∃m v g' w' y T',(execOp ρ o).run P w= .ok m w' ∧fc m=some v∧K (bu σ o.dst y) T' ∧VR g' w' y v∧Evo g w g' w' ∧RW g' T' w' ∧Fix ro g T w T' w'):VPi P G ro o σ T K:=by
 refine VPx.toI ?_ hd
 intro g w a next Q r hG hσ hn
 obtain ⟨m,v,g',w',y,T',h1,h2,hk,h3,h4,h5,h6⟩:=h g w a.eval r (du hG hσ)
 unfold Oper.wp
 rw [h1]
 have e:∀v',VR g' w' y v' →next (a.put o.dst v') w' :=fun v' hv=>hn _ _ g' w' _ ⟨v',rfl⟩ hk h4 h5 (eD (hσ.mono h4) o.dst hv) (b6 _ _ _) h6
 cases m<;>simp only [fc] at h2<;>try (cases h2)
 ·exact e v h3
 ·exact e undef h3
theorem i8 {g:Gh} {w:World} {σ:List TV} {ρ:Operand→Value} (hρ:∀x,VR g w (aT G σ x) (ρ x)):∀(l:List Operand) (t:Nat),VR g w (bX (eX σ l) t) (ρ (.tmp t))
 | [],t=> .dead _
 | .tmp s::l,t=>by
  simp only [eX,bX]
  cases hb:Nat.beq s t with
  | true=>
   have:=Nat.eq_of_beq_eq_true hb
   subst this
   exact hρ (.tmp s)
  | false=>exact i8 hρ l t
 | .const v::l,t=>i8 hρ l t
 | .global n::l,t=>i8 hρ l t
 | .func f::l,t=>i8 hρ l t
theorem iB {g:Gh} {w:World} {σ:List TV} {ρ:Operand→Value} (hρ:∀x,VR g w (aT G σ x) (ρ x)) (l:List Operand) (x:Operand):VR g w (bb G (eX σ l) x) (ρ x):=by
 cases x with
 | tmp t=>exact i8 hρ l t
 | const v=>exact hρ (.const v)
 | global n=>exact hρ (.global n)
 | func f=>exact hρ (.func f)
theorem G9 {ro:Nat} {o:Oper} {σ:List TV} {T:VT} {K:List TV→VT→Prop} (h:EI P G ro o σ T K):VPi P G ro o σ T K:=by
 obtain ⟨dst,op,ty,pos,af,gd⟩:=o
 have gen:(match fw P ro T op (aT G σ) with
   | some (y,T')=>K (bu σ dst y) T'
   | none=>ay 2 op (op.operands.toList.map (aT G σ)))→b8 op=true→VPi P G ro ⟨dst,op,ty,pos,af,gd⟩ σ T K:=by
  intro h hd
  split at h
  ·rename_i y T' hy
   refine VPi.of hd fun g w ρ r hρ=> ?_
   obtain ⟨m,v,g',w',h1,h2,h3,h4,h5,h6⟩:=yK (o:=⟨dst,op,ty,pos,af,gd⟩) r hy hρ
   exact ⟨m,v,g',w',y,T',h1,h2,h,h3,h4,h5,h6⟩
  ·exact h.elim
 unfold EI at h
 simp only at h
 cases op
 case next it isS=>
  cases isS with
  | true=>exact gen h rfl
  | false=>
   simp only at h
   split at h
   ·rename_i i l hl
    cases hr:Nat.ble ro i with
    | false=>rw [hr] at h;exact h.elim
    | true=>
     rw [hr] at h
     simp only [cond_true] at h
     refine VPi.of rfl fun g w ρ r hρ=> ?_
     obtain ⟨p,hp,v,g',w',h1,h2,h3,h4,h5⟩:=Cs (P:=P) (ty:=ty) r hl (hρ it) (Nat.le_of_ble_eq_true hr)
     exact ⟨.value v,v,g',w',p.1,p.2,by simp [execOp,h1],rfl,yL h p hp,h2,h3,h4,h5⟩
   ·exact h.elim
 case entry it=>
  simp only at h
  split at h
  ·rename_i y hy
   refine VPi.of rfl fun g w ρ r hρ=> ?_
   obtain ⟨v,h1,h2⟩:=uy (P:=P) r hy (hρ it)
   exact ⟨.value v,v,g,w,y,T,by simp [execOp,h2],rfl,h,h1,Evo.refl _ _,r,Fix.refl _ _ _ _⟩
  ·exact h.elim
 case binOp op t x y' ty' =>
  simp only at h
  cases hb:vy P op t (aT G σ x) (aT G σ y') with
  | false=>
   rw [hb] at h
   simp only [cond_false] at h
   refine gen ?_ rfl
   split at h
   ·rename_i y T' hy;first | exact h | (rw [hy];exact h)
   ·exact h.elim
  | true=>
   rw [hb] at h
   refine VPi.of rfl fun g w ρ r hρ=> ?_
   obtain ⟨b,hrun⟩:=Ey (P:=P) (xo:=x) (yo:=y') hb (hρ x) (hρ y')
   have hl:Looks0 P g w (do eqGuard op t x y' (ρ x) (ρ y');binOp op t (ρ x) (ρ y')) (.val (.bool b)):= .of_ok (.val _) hrun
   obtain ⟨v,h1,h2⟩:=hl.next (n:=execOp ρ ⟨dst, .binOp op t x y' ty',ty,pos,af,gd⟩) rfl
   refine ⟨.value v,v,g,w, .val (.bool b),T,h2 w,rfl, ?_,h1,Evo.refl _ _,r,Fix.refl _ _ _ _⟩
   cases b
   ·exact h.2
   ·exact h.1
 case range t x=>
  simp only at h
  split at h
  ·rename_i y T' hy
   refine VPi.of rfl fun g w ρ r hρ=> ?_
   obtain ⟨h1,h2⟩:=Cr (P:=P) r hy (hρ x)
   obtain ⟨v,g',w',k1,k2,k3,k4,k5⟩:=h1
   exact ⟨.value v,v,g',w',y,T',by simp [execOp,k1],rfl,h,k2,k3,k4,Fix.of_same k5 h2⟩
  ·exact h.elim
 case defer c=>
  simp only at h
  exfalso
  have:fw P ro T (.defer c) (aT G σ)=none:=by
   simp [fw,bq,dX,bf,dx,kY,rD,l3,mJ]
  rw [this] at h
  exact h
 all_goals exact gen h rfl
theorem yl {op:Op} {ro:Nat} {T T' :VT} {ev:Operand→TV} {y:TV} (h:fw P ro T op ev=some (y,T')):b8 op=true:=by
 cases op<;>first
  | rfl
  | (exfalso;simp [fw,bq,dX,bf,dx,kY,rD,l3,mJ] at h)
theorem wv {op:Op} {T T' :VT} {ev:Operand→TV} {y:TV} (h:rD P T op ev=some (y,T')):b8 op=true:=by
 cases op<;>first
  | rfl
  | (exfalso;simp [rD,dx,l3] at h)
theorem Cz {op:Op} {ro:Nat} {T:VT} {ev:Operand→TV} {y:TV} (h:bq P op ev=some y):fw P ro T op ev=some (y,T):=by
 unfold fw;rw [h]
theorem Ha {ro:Nat} {o:Oper} {σ:List TV} {T:VT} {K:List TV→VT→Prop} (h:EJ P G F ro o σ T K):VPi P G ro o σ T K:=by
 unfold EJ at h
 have go:∀{y T'},fw P ro T o.op (bb G (eX σ o.op.operands.toList))=some (y,T')→K (bu σ o.dst y) T' →VPi P G ro o σ T K:=by
  intro y T' hy hk
  refine VPi.of (yl hy) fun g w ρ r hρ=> ?_
  obtain ⟨m,v,g',w',h1,h2,h3,h4,h5,h6⟩:=yK (o:=o) r hy (iB hρ _)
  exact ⟨m,v,g',w',y,T',h1,h2,hk,h3,h4,h5,h6⟩
 split at h
 ·obtain ⟨⟨hy⟩,hk⟩:=h
  exact go (Cz hy) hk
 ·obtain ⟨hy,hk⟩:=h
  cases hy with
  | mk hy=>exact go hy hk
  | old hf hy=>
   refine VPi.of (wv hy) fun g w ρ r hρ=> ?_
   obtain ⟨m,v,g',w',h1,h2,h3,h4,h5,h6⟩:=yD (o:=o) r hf hy (iB hρ _)
   exact ⟨m,v,g',w',_,_,h1,h2,hk,h3,h4,h5,h6⟩
  | ent it ho ht hy=>
   obtain ⟨dst,op,ty,pos,af,gd⟩:=o
   simp only at ho hk hy
   subst ho ht
   refine VPi.of rfl fun g w ρ r hρ=> ?_
   obtain ⟨v,h1,h2⟩:=uy (P:=P) r hy (iB hρ _ it)
   exact ⟨.value v,v,g,w,_,_,by simp [execOp,h2],rfl,hk,h1,Evo.refl _ _,r,Fix.refl _ _ _ _⟩
 ·exact G9 h
theorem VPx.ext {ro:Nat} {o:Oper} {fo:Operand} {args:Array Operand} {ats:Array TypeId} {σ:List TV} {T T' :VT} {K:List TV→VT→Prop} {f:FuncId} {fi ca:List TV} {y:TV}
  (ho:o.op= .call ⟨.value fo,args,ats⟩) (hf:aT G σ fo= .fn (.func f) fi ca) (hx:AJ P ro T f (fi++args.toList.map (aT G σ)++ca)=some (y,T')) (k:K (bu σ o.dst y) T'):VPx P G ro o σ T K:=by
 intro g w a next Q r hG hσ hn
 have h1:=du hG hσ fo
 rw [hf] at h1
 obtain ⟨us,vs,h2,h3,h4⟩:=h1.fn_inv
 have hargs:=(h3.app (fS (du hG hσ) args.toList)).app h4
 unfold AJ at hx
 split at hx
 ·rename_i fn hfn
  cases hb:fn.body.isNone with
  | false=>rw [hb] at hx;cases hx
  | true=>
   rw [hb] at hx
   obtain ⟨v,g',w',k1,k2,k3,k4,k5⟩:=G1 r hfn hx hargs
   have hrun:(execOp a.eval o).run P w= .ok (.value v) w' :=by
    obtain ⟨dst,op,ty,pos,af,gd⟩:=o
    simp only at ho;subst ho
    have e:(us.toArray++args.map a.eval)++vs.toArray=(us++args.toList.map a.eval++vs).toArray:=by
     apply Array.ext';simp
    simp only [execOp,resolve,h2,Deferred.ofValue,invoke,Sem.run_bind,Sem.run_pure,Result.andThen_ok,e]
    exact k1
   unfold Oper.wp
   rw [hrun]
   exact hn _ _ g' w' _ ⟨_,rfl⟩ k k3 k4 (eD (hσ.mono k3) o.dst k2) (b6 _ _ _) k5
 ·cases hx
theorem jP {call:fY} {rnd:g9} (hc:fD P G call) (hr:gN P G rnd) {ro:Nat} {o:Oper} {σ:List TV} {T:VT} {K:List TV→VT→Prop} (h:mT P G F call rnd ro o σ T K):VPi P G ro o σ T K:=by
 unfold mT at h
 split at h
 ·rename_i fo args ats ho
  split at h
  ·rename_i f fi ca hf
   split at h
   ·rename_i y T' hx
    exact (VPx.ext ho hf hx h).toI (by rw [ho];rfl)
   ·obtain ⟨fn,h1,h2,h3,h4⟩:=hc _ _ _ _ _ h
    exact (VPx.call ho hf h1 h2 h3 h4).toI (by rw [ho];rfl)
  ·rename_i id hf
   exact VPi.yld ho hf (hr _ _ _ _ _ h)
  ·exact h.elim
 ·exact Ha h
theorem fE {ops:Array Oper} {σ:List TV} {o:Oper} {b:Bool} (h:bW ops σ o=some b) {g:Gh} {w:World} {a:Act} (hσ:VRs g w σ a.tmps.toList):Region.wanted o (yielded ops a.tmps)=b:=Ak (EH h) hσ
theorem tG {call:fY} {rnd:g9} (hc:fD P G call) (hr:gN P G rnd) {ro:Nat} {ops:Array Oper} {K:List TV→VT→Prop} {r:Option Nat} {QQ:Exit→Act→World→Prop}:∀(js:List Nat) (l:List Oper),js.map (ops[·]?)=l.map some→∀(σ:List TV) (T:VT),tC P G F call rnd ro ops l σ T K→∀g w (a:Act),RW g T w→GOk G g w→VRs g w σ a.tmps.toList→
  (∀σ' T' g' w' (a' :Act),K σ' T' →Evo g w g' w' →RW g' T' w' →VRs g' w' σ' a'.tmps.toList→a'.defers=a.defers→Fix ro g T w T' w' →QQ .normal a' w')→wpOpsIn (cK r) 0 P ops QQ js a w
 | [], [],_,σ,T,h,g,w,a,rw0,hG,hσ,hq=>hq σ T g w a h (Evo.refl _ _) rw0 hσ rfl (Fix.refl _ _ _ _)
 | [],_::_,hl,_,_,_,_,_,_,_,_,_,_=>by simp at hl
 | _::_, [],hl,_,_,_,_,_,_,_,_,_,_=>by simp at hl
 | j::js,o::l,hl,σ,T,h,g,w,a,rw0,hG,hσ,hq=>by
  simp only [List.map_cons,List.cons.injEq] at hl
  obtain ⟨ho,hl⟩:=hl
  simp only [wpOpsIn,ho]
  simp only [tC] at h
  replace h:=dZ h
  split at h
  ·rename_i b hb
   have hw:=fE hb hσ
   cases b with
   | true=>
    rw [if_pos hw]
    simp only [cond_true] at h
    exact jP hc hr h r g w a _ QQ rw0 hG hσ fun σ' T' g' w' a' _ hk e r' hσ' hd' hx=>tG hc hr js l hl σ' T' hk g' w' a' r' (hG.mono e) hσ' fun σ'' T'' g'' w'' a'' hk' e' r'' hσ'' hd'' hx' =>hq σ'' T'' g'' w'' a'' hk' (e.trans e') r'' hσ'' (hd''.trans hd') (hx.trans e hx')
   | false=>
    rw [if_neg (by rw [hw];exact Bool.false_ne_true)]
    refine ⟨fun _ _=>trivial, ?_⟩
    exact tG hc hr js l hl _ T h g w _ rw0 hG (eD hσ o.dst (.val undef)) fun σ'' T'' g'' w'' a'' hk' e' r'' hσ'' hd'' hx' =>hq σ'' T'' g'' w'' a'' hk' e' r'' hσ'' (hd''.trans (b6 _ _ _)) hx'
  ·exact h.elim
theorem CA (l:List Oper):(List.range l.length).map (l.toArray[·]?)=l.map some:=by
 apply List.ext_getElem?
 intro j
 simp only [List.getElem?_map,List.getElem?_toArray]
 rcases Nat.lt_or_ge j l.length with h | h
 ·simp [h]
 ·simp [List.getElem?_eq_none h,List.getElem?_eq_none (l:=List.range l.length) (by simpa using h)]
theorem AP {call:fY} {rnd:g9} (hc:fD P G call) (hr:gN P G rnd) {rd:Option Nat} {ro id:Nat} {ops:Array Oper} {σ:List TV} {T:VT} {D:List Nat} {Q:KX} (h:tC P G F call rnd ro ops ops.toList σ T fun σ T=>Q .normal σ T D):VWx P G rd ro (.region id ops false) σ T D Q:=by
 intro r g w a rw0 hG hσ hd hD hrd
 have e:=CA ops.toList
 rw [Array.toArray_toList] at e
 have h2:ops.toList.length=ops.size:=by simp
 rw [h2] at e
 exact wpIn_region (tG hc hr (List.range ops.size) ops.toList e σ T h g w a rw0 hG hσ fun σ' T' g' w' a' hk e r' hσ' hd' hx=>⟨g',σ',T',D,hk,e,r',hσ',by rw [hd',hd,j4 e hD],eN e hD,hx⟩)
theorem fF {listed:Array Bool} {i n:Nat} (h:listed.size=n):(listed.setIfInBounds i true).size=n:=by simpa using h
theorem eO {call:fY} {rnd:g9} (hc:fD P G call) (hrr:gN P G rnd) {ops:Array Oper} (hnd:∀(j:Nat) o,ops[j]?=some o→b8 o.op=true) (hsel:∀(j:Nat) (o:Oper) cs b,ops[j]?=some o→o.op≠ .select cs b) {ro ro' :Nat} (hle:ro' ≤ro) {K:List TV→VT→Prop} {r:Option Nat} {gs:Gh} {Ts:VT} {ws:World} {ds:List Deferred} {QQ:Act→World→Prop}
  (hq:∀σ' T' g' w' (a' :Act),K σ' T' →Evo gs ws g' w' →RW g' T' w' →VRs g' w' σ' a'.tmps.toList→a'.defers=ds→Fix ro' gs Ts ws T' w' →QQ a' w'):
  ∀(l:List (Nat × PK)) (listed:Array Bool) (T0:VT) (ph:Bool) (σ:List TV) (T:VT),jM ops l listed=true→dq P G F call rnd ro ops T0 ph (fe ops l) σ T K→∀g0 w0 g w (a:Act),RW g0 T0 w0→GOk G g w→RW g T w→VRs g w σ a.tmps.toList→a.defers=ds→
   Evo g0 w0 g w→Same g0 T0 w0 w→T.objs.take T0.objs.length=T0.objs→(ph=false→g=g0∧w=w0∧T=T0)→Evo gs ws g w→Fix ro' gs Ts ws T w→ro' ≤T0.objs.length→Closed ops listed→listed.size=ops.size→
   eW P r ops (eb QQ) (SS g0 T0 w0 (c9 l)) l.length listed a w
 | [],listed,T0,ph,σ,T,hp,h,g0,w0,g,w,a,r0,hG,r1,hσ,hds,he,hs,ht,hph,hes,hfx,hro,hcl,hsz=>by
  simp only [jM] at hp
  exact ⟨by simpa using hp,hq σ T g w a h hes r1 hσ hds hfx⟩
 | (i,k)::l,listed,T0,ph,σ,T,hp,h,g0,w0,g,w,a,r0,hG,r1,hσ,hds,he,hs,ht,hph,hes,hfx,hro,hcl,hsz=>by
  simp only [jM,Bool.and_eq_true,Bool.not_eq_true'] at hp
  obtain ⟨⟨hk,hib⟩,hp⟩:=hp
  have hib:=dY hib
  have hQ:∀e a w,e≠ .normal→¬eb QQ e a w:=fun e a w he=>by cases e<;>first | exact (he rfl).elim | exact fun h=>h
  have hin:∀i,i∈Region.ready .any ops listed→∃o,ops[i]?=some o:=fun i hi=>by obtain ⟨_,o,ho,_⟩:=mem_ready.1 hi;exact ⟨o,ho⟩
  have toSS:Same g0 T0 w0 w→∀bars L,SS g0 T0 w0 bars L w:=fun hs bars L _=>hs
  have take:∀(o:Oper) (x:TV),ops[i]?=some o→i∈Region.ready .any ops listed→Region.free .any ops listed i=true→
    ∀(Sr:World→Prop),Sr w→(∀(L:Array Bool) w,Closed ops L→L.getD i false=false→SS g0 T0 w0 (c9 l) (L.setIfInBounds i true) w→Sr w)→
    (∀b,bW ops σ o=some b→cond b (∃v,VR g w x v∧(∀w',Sr w' →(execOp a.eval o).run P w' = .ok (.value v) w')∧∀v,VR g w x v→eW P r ops (eb QQ) (SS g0 T0 w0 (c9 l)) l.length (listed.setIfInBounds i true) (a.put o.dst v) w)
     (eW P r ops (eb QQ) (SS g0 T0 w0 (c9 l)) l.length (listed.setIfInBounds i true) (a.put o.dst undef) w))→
    (∃b,bW ops σ o=some b)→eW P r ops (eb QQ) (SS g0 T0 w0 (c9 l)) (l.length+1) listed a w:=by
   intro o x ho hri hfree Sr hSr hSS hgo ⟨b,hb⟩
   have hw:=fE hb hσ
   have h1:=hgo b hb
   cases b with
   | true=>
    obtain ⟨v,h2,h3,h4⟩:=h1
    exact od ho hnd hsel hQ hSS (fun L w h=>wm hib L w h) _ listed a w hcl (Region.free_spec ho hfree) hri (.inl ⟨hw,h3⟩) hSr (toSS hs _ _) (h4 v h2)
   | false=>
    exact od ho hnd hsel hQ hSS (fun L w h=>wm hib L w h) _ listed a w hcl (Region.free_spec ho hfree) hri (.inr ⟨hw,rfl⟩) hSr (toSS hs _ _) h1
  have hTl:T0.objs.length≤T.objs.length:=by
   have:=congrArg List.length ht
   rw [List.length_take] at this;omega
  rw [List.length_cons]
  cases k with
  | pk0=>
   have hbars:c9 ((i,PK.pk0)::l)=c9 l:=rfl
   rw [hbars]
   simp only [Bool.and_eq_true,List.contains_iff_mem] at hk
   obtain ⟨hfree,hri⟩:=hk
   obtain ⟨o,ho⟩:=hin i hri
   simp only [fe,ho] at h
   simp only [dq] at h
   replace h:=dZ h
   have hcl' :=hcl.set hri
   have hx0:∃x,bW ops σ o=some true→(∃v,VR g w x v∧∀w',(execOp a.eval o).run P w' = .ok (.value v) w')∧dq P G F call rnd ro ops T0 ph (fe ops l) (bu σ o.dst x) T K:=by
    by_cases hb:bW ops σ o=some true
    ·rw [hb] at h
     simp only [cond_true] at h
     split at h
     ·rename_i x hx
      exact ⟨x,fun _=>⟨by obtain ⟨hx⟩:=h.1;exact i7 (P:=P) hx (iB (du hG hσ) _),h.2⟩⟩
     ·exact h.elim
     ·split at h
      ·rename_i x hx
       exact ⟨x,fun _=>⟨i7 (P:=P) hx (du hG hσ),h⟩⟩
      ·exact h.elim
    ·exact ⟨.dead,fun h=>absurd h hb⟩
   obtain ⟨x,hx0⟩:=hx0
   refine take o x ho hri hfree (fun _=>True) trivial (fun _ _ _ _ _=>trivial) ?_ ?_
   ·intro b hb
    cases b with
    | true=>
     obtain ⟨⟨v,h1,h2⟩,h⟩:=hx0 hb
     exact ⟨v,h1,fun w' _=>h2 w',fun v hv=>eO hc hrr hnd hsel hle hq l _ T0 ph _ T hp h g0 w0 g w _ r0 hG r1 (eD hσ o.dst hv) ((b6 _ _ _).trans hds) he hs ht hph hes hfx hro hcl' (fF hsz)⟩
    | false=>
     rw [hb] at h
     simp only [cond_false] at h ⊢
     exact eO hc hrr hnd hsel hle hq l _ T0 ph _ T hp h g0 w0 g w _ r0 hG r1 (eD hσ o.dst (.val undef)) ((b6 _ _ _).trans hds) he hs ht hph hes hfx hro hcl' (fF hsz)
   ·split at h
    ·exact ⟨_,by assumption⟩
    ·exact h.elim
  | pk1=>
   have hbars:c9 ((i,PK.pk1)::l)=c9 l:=rfl
   rw [hbars]
   simp only [Bool.and_eq_true,List.contains_iff_mem] at hk
   obtain ⟨⟨hfree,hri⟩,hanc⟩:=hk
   obtain ⟨o,ho⟩:=hin i hri
   simp only [fe,ho] at h
   simp only [dq] at h
   replace h:=dZ h
   have hcl' :=hcl.set hri
   have late:∀{ev:Operand→TV} {x:TV},(∀x,VR g w (ev x) (a.eval x))→rS P T0 ph o.op ev=some x→∃v,VR g w x v∧∀w',Same g0 T0 w0 w' →(execOp a.eval o).run P w' = .ok (.value v) w' :=by
    intro ev x hev hx
    unfold rS at hx
    split at hx
    ·rename_i y hy
     injection hx with hx;subst hx
     obtain ⟨v,h1,h2⟩:=i7 (P:=P) hy hev
     exact ⟨v,h1,fun w' _=>h2 w'⟩
    ·cases ph with
     | true=>
      simp only [cond_true] at hx
      exact Cp (P:=P) r0 he hx hev
     | false=>
      obtain ⟨rfl,rfl,rfl⟩:=hph rfl
      simp only [cond_false] at hx
      exact oa (P:=P) r1 hx hev
   have hx0:∃x,bW ops σ o=some true→(∃v,VR g w x v∧∀w',Same g0 T0 w0 w' →(execOp a.eval o).run P w' = .ok (.value v) w')∧dq P G F call rnd ro ops T0 ph (fe ops l) (bu σ o.dst x) T K:=by
    by_cases hb:bW ops σ o=some true
    ·rw [hb] at h
     simp only [cond_true] at h
     split at h
     ·rename_i x hx
      exact ⟨x,fun _=>⟨by obtain ⟨hx⟩:=h.1;exact late (iB (du hG hσ) _) hx,h.2⟩⟩
     ·exact h.elim
     ·split at h
      ·rename_i x hx
       exact ⟨x,fun _=>⟨late (du hG hσ) hx,h⟩⟩
      ·exact h.elim
    ·exact ⟨.dead,fun h=>absurd h hb⟩
   obtain ⟨x,hx0⟩:=hx0
   refine take o x ho hri hfree (Same g0 T0 w0) hs (fun L w h1 h2 h3=>G6 hib (fun b hb=>List.all_eq_true.1 hanc b hb) L w h1 h2 h3) ?_ ?_
   ·intro b hb
    cases b with
    | true=>
     obtain ⟨⟨v,h1,h2⟩,h⟩:=hx0 hb
     exact ⟨v,h1,h2,fun v hv=>eO hc hrr hnd hsel hle hq l _ T0 ph _ T hp h g0 w0 g w _ r0 hG r1 (eD hσ o.dst hv) ((b6 _ _ _).trans hds) he hs ht hph hes hfx hro hcl' (fF hsz)⟩
    | false=>
     rw [hb] at h
     simp only [cond_false] at h ⊢
     exact eO hc hrr hnd hsel hle hq l _ T0 ph _ T hp h g0 w0 g w _ r0 hG r1 (eD hσ o.dst (.val undef)) ((b6 _ _ _).trans hds) he hs ht hph hes hfx hro hcl' (fF hsz)
   ·split at h
    ·exact ⟨_,by assumption⟩
    ·exact h.elim
  | pk2=>
   have hbars:c9 ((i,PK.pk2)::l)=c9 l:=rfl
   rw [hbars]
   have hk:Region.ready .any ops listed= [i]:=by simpa using hk
   have hri:i∈Region.ready .any ops listed:=by rw [hk];simp
   obtain ⟨o,ho⟩:=hin i hri
   simp only [fe,ho] at h
   simp only [dq] at h
   replace h:=dZ h
   have hcl' :=hcl.set hri
   refine pV hk ?_
   split at h
   ·rename_i b hb
    have hw:=fE hb hσ
    unfold wpOpIn
    simp only [ho]
    cases b with
    | true=>
     rw [if_pos hw]
     simp only [cond_true] at h
     refine jP hc hrr h r g w a _ _ r1 hG hσ fun σ' T' g' w' a' _ hk' e' r' hσ' hd' hx' => ?_
     have he' :=he.trans e'
     have hs2:Same g0 T0 w0 w' :=by
      refine ⟨fun b o hb=>(he'.st b o hb).2,fun id o b hid hl hb=> ?_⟩
      have hlt:=(List.getElem?_eq_some_iff.1 hid).1
      have h1:T.objs[id]?=some o:=by
       have hid' :=hid
       rw [←ht,List.getElem?_take,if_pos hlt] at hid'
       exact hid'
      rw [hx'.heap id o b hlt h1 hl (he.obj id b hb),hs.obj id o b hid hl hb]
     have ht2:T'.objs.take T0.objs.length=T0.objs:=by
      refine Eq.trans ?_ ht
      apply List.ext_getElem?
      intro j
      rw [List.getElem?_take,List.getElem?_take]
      split
      ·rename_i hj
       exact hx'.same j hj (by omega)
      ·rfl
     refine ⟨fun _=>hs2, ?_⟩
     exact eO hc hrr hnd hsel hle hq l _ T0 true σ' T' hp hk' g0 w0 g' w' a' r0 (hG.mono e') r' hσ' (hd'.trans hds) he' hs2 ht2 (fun h=>by cases h) (hes.trans e') (hfx.trans hes (hx'.mono hro)) hro hcl' (fF hsz)
    | false=>
     rw [if_neg (by rw [hw];exact Bool.false_ne_true)]
     simp only [cond_false] at h
     refine ⟨fun _ _=>trivial,fun _=>hs, ?_⟩
     exact eO hc hrr hnd hsel hle hq l _ T0 true _ T hp h g0 w0 g w _ r0 hG r1 (eD hσ o.dst (.val undef)) ((b6 _ _ _).trans hds) he hs ht (fun h=>by cases h) hes hfx hro hcl' (fF hsz)
   ·exact h.elim
  | pk3=>
   have hbars:c9 ((i,PK.pk3)::l)=i::c9 l:=rfl
   rw [hbars]
   have hk:Region.ready .any ops listed= [i]:=by simpa using hk
   have hri:i∈Region.ready .any ops listed:=by rw [hk];simp
   obtain ⟨o,ho⟩:=hin i hri
   simp only [fe,ho] at h
   simp only [dq] at h
   replace h:=dZ h
   have hcl' :=hcl.set hri
   have hil:i<listed.size:=by rw [hsz];exact (Array.getElem?_eq_some_iff.1 ho).1
   have hset:(listed.setIfInBounds i true).getD i false=true:=by simp [hil]
   have hSi:∀(L:Array Bool) w,L.getD i false=true→SS g0 T0 w0 (i::c9 l) L w:=fun L w hL hb=>by
    have:=hb i (by simp)
    rw [hL] at this;cases this
   refine pV hk ?_
   split at h
   ·rename_i b hb
    have hw:=fE hb hσ
    unfold wpOpIn
    simp only [ho]
    cases b with
    | true=>
     rw [if_pos hw]
     simp only [cond_true] at h
     refine jP hc hrr h r g w a _ _ r1 hG hσ fun σ' T' g' w' a' _ hk' e' r' hσ' hd' hx' => ?_
     refine ⟨hSi _ _ hset,jg (S' :=SS g' T' w' (c9 l)) hSi _ _ _ _ hset ?_⟩
     exact eO hc hrr hnd hsel hle hq l _ T' false σ' T' hp hk' g' w' g' w' a' r' (hG.mono e') r' hσ' (hd'.trans hds) (Evo.refl _ _) (Same.refl _ _ _) List.take_length (fun _=>⟨rfl,rfl,rfl⟩) (hes.trans e') (hfx.trans hes (hx'.mono hle)) (Nat.le_trans (Nat.le_trans hro hTl) hx'.len) hcl' (fF hsz)
    | false=>
     rw [if_neg (by rw [hw];exact Bool.false_ne_true)]
     simp only [cond_false] at h
     refine ⟨fun _ _=>trivial,hSi _ _ hset,jg (S' :=SS g T w (c9 l)) hSi _ _ _ _ hset ?_⟩
     exact eO hc hrr hnd hsel hle hq l _ T false _ T hp h g w g w _ r1 hG r1 (eD hσ o.dst (.val undef)) ((b6 _ _ _).trans hds) (Evo.refl _ _) (Same.refl _ _ _) List.take_length (fun _=>⟨rfl,rfl,rfl⟩) hes hfx (Nat.le_trans hro hTl) hcl' (fF hsz)
   ·exact h.elim
end
end
section
open Go.RowKit

section
variable {P:Program} {G:aK}
theorem iC {T0 T:VT} (h:T.objs.take T0.objs.length=T0.objs) {id:Nat} {o:VO} (k:T0.objs[id]?=some o):T.objs[id]?=some o:=by
 have hlt:=(List.getElem?_eq_some_iff.1 k).1
 rw [←h,List.getElem?_take,if_pos hlt] at k
 exact k
theorem ou {T0 T:VT} (h:T.objs.take T0.objs.length=T0.objs) {x:TV} {n:Nat} {cs:List TV} (k:dF T0 x n=some cs):dF T x n=some cs:=by
 cases x
 case ptr id off=>
  simp only [dF] at k ⊢
  split at k
  ·rename_i cs' hid;rw [iC h hid];exact k
  ·rename_i cs' hid;rw [iC h hid];exact k
  ·cases k
 all_goals first
  | exact k
  | (simp only [dF] at k;done)
theorem AQ {T0 T:VT} (h:T.objs.take T0.objs.length=T0.objs) {t:TypeId} {x y:TV} (k:iP P T0 t x=some y):iP P T t x=some y:=by
 unfold iP at k ⊢
 cases hu:P.underlying t with
 | none=>rw [hu] at k;cases k
 | some d=>
  cases hi:P.info? t with
  | none=>rw [hu,hi] at k;cases k
  | some i=>
   rw [hu,hi] at k
   simp only at k ⊢
   cases hb:nS d with
   | true=>
    rw [hb] at k
    simp only [if_true,Option.map_eq_some_iff] at k ⊢
    obtain ⟨cs,h1,h2⟩:=k
    exact ⟨cs,ou h h1,h2⟩
   | false=>
    rw [hb] at k
    simp only [Bool.false_eq_true,if_false] at k ⊢
    split at k
    ·rename_i z hz;rw [ou h hz];exact k
    ·cases k
theorem CB {T0 T:VT} (h:T.objs.take T0.objs.length=T0.objs) {t:TypeId} {x y:TV} (k:lG P T0 t x=some y):lG P T t x=some y:=by
 unfold lG at k ⊢
 cases hu:P.underlying t with
 | none=>rw [hu] at k;cases k
 | some d=>
  rw [hu] at k
  cases d<;>try (exact k)
  cases x
  case val v=>
   cases v<;>try (exact k)
   rename_i m
   cases m<;>exact k
  case map id=>
   have k' :(match T0.objs[id]? with
    | some (VO.map _ _ es _)=>some (TV.val (.int .i64 es.length))
    | _=>none)=some y:=k
   show (match T.objs[id]? with
    | some (VO.map _ _ es _)=>some (TV.val (.int .i64 es.length))
    | _=>none)=some y
   split at k'
   ·rename_i hid;rw [iC h hid];exact k'
   ·cases k'
  all_goals exact k
theorem AR {T0 T:VT} (h:T.objs.take T0.objs.length=T0.objs) {n:Nat} {x:TV} {y:List (List TV)} (k:cn T0 n x=some y):cn T n x=some y:=by
 cases x
 case row sz id off m=>
  simp only [cn] at k ⊢
  split at k
  ·rename_i hid;rw [iC h hid];exact k
  ·cases k
 case sl id off m c=>
  simp only [cn] at k ⊢
  split at k
  ·rename_i hid;rw [iC h hid];exact k
  ·rename_i hid;rw [iC h hid];exact k
  ·cases k
 case val v=>
  cases v<;>try (exact k)
  rename_i q m c
  cases q<;>try (exact k)
  cases m<;>exact k
 all_goals exact k
theorem ym {T0 T:VT} (h:T.objs.take T0.objs.length=T0.objs) {s d:TypeId} {x y:TV} (k:fv P T0 s d x=some y):fv P T s d x=some y:=by
 unfold fv at k ⊢
 split at k
 ·split at k
  ·cases x
   case val v=>exact k
   all_goals
    simp only at k ⊢
    split at k
    ·rename_i es hes;rw [AR h hes];exact k
    ·cases k
  ·cases k
 ·cases k
theorem ww {T0 T:VT} (h:T.objs.take T0.objs.length=T0.objs) {t:TypeId} {m k y:TV} {ok:Bool} (q:dG P T0 t m k ok=some y):dG P T t m k ok=some y:=by
 unfold dG at q ⊢
 split at q
 ·rename_i kt et kv hu hk
  split at q
  ·rename_i sh i hs hi
   split at q
   ·cases hb:sh.fits kv with
    | false=>rw [hb] at q;cases q
    | true=>
     rw [hb] at q
     simp only [cond_true] at q ⊢
     cases m
     case val v=>
      cases v<;>try (exact q)
      rename_i m
      cases m<;>exact q
     case map id=>
      have q' :(match T0.objs[id]? with
       | some (VO.map sh' look _ _)=>bif j3 sh sh' then some (fV ok (look kv) _) else none
       | _=>none)=some y:=q
      show (match T.objs[id]? with
       | some (VO.map sh' look _ _)=>bif j3 sh sh' then some (fV ok (look kv) _) else none
       | _=>none)=some y
      split at q'
      ·rename_i hid;rw [iC h hid];exact q'
      ·cases q'
     all_goals exact q
   ·cases q
  ·cases q
 ·cases q
theorem AS {T0 T:VT} (h:T.objs.take T0.objs.length=T0.objs) {op:Op} {ev:Operand→TV} {y:TV} (k:dx P T0 op ev=some y):dx P T op ev=some y:=by
 cases op<;>simp only [dx] at k ⊢<;>try (exact k)
 case load t a=>exact AQ h k
 case call c=>
  obtain ⟨cal,args,ats⟩:=c
  unfold iZ at k ⊢
  split at k
  ·rename_i hc
   split at k
   ·exact CB h k
   ·cases k
  ·exact k
  ·exact k
  ·cases k
theorem iU {T0 T:VT} (h:T.objs.take T0.objs.length=T0.objs) {op:Op} {ev:Operand→TV} {y:TV} (k:bf P T0 op ev=some y):bf P T op ev=some y:=by
 cases op<;>simp only [bf] at k ⊢<;>try (exact AS h k)
 case convert s d x=>
  split at k
  ·rename_i r hr
   rw [ym h hr];exact k
  ·rename_i hn
   have e:fv P T s d (ev x)=none∨∃r,fv P T s d (ev x)=some r:=by cases fv P T s d (ev x)<;>simp
   rcases e with e | ⟨r,e⟩
   ·rw [e];exact k
   ·exfalso
    simp only [dx,Option.bind_eq_some_iff] at k
    obtain ⟨v,hv,k⟩:=k
    --a value that is known whole is no row
    unfold fv at e
    split at e
    ·rename_i el hs hd
     split at e
     ·cases hx:ev x<;>rw [hx] at e hv<;>simp only at e<;>try (cases e)
      all_goals try (simp [ce] at hv;done)
      all_goals
       rename_i cs
       simp only [cn] at e
       cases e
     ·cases e
    ·cases e
 case lookup t m q ok=>exact ww h k
def i9 (P:Program) (G:aK) (Tp:VT) (o:Oper) (s:List TV) (y:TV):Prop:=∀g w (ρ:Operand→Value) T,T.objs.take Tp.objs.length=Tp.objs→RW g T w→(∀x,VR g w (aT G s x) (ρ x))→
 ∃m v g' w',(execOp ρ o).run P w= .ok m w' ∧fc m=some v∧VR g' w' y v∧Evo g w g' w' ∧RW g' T w' ∧Same g T w w'
theorem EK (T:VT):T.objs.take (⟨[], []⟩:VT).objs.length=(⟨[], []⟩:VT).objs:=by simp
theorem qF {o:Oper} {s:List TV} {y:TV} {ev:(Operand→TV)} (hev:∀g w (ρ:Operand→Value),(∀x,VR g w (aT G s x) (ρ x))→∀x,VR g w (ev x) (ρ x)) (h:bq P o.op ev=some y) (Tp:VT):i9 P G Tp o s y:=by
 intro g w ρ T _ r hρ
 obtain ⟨v,h1,h2⟩:=i7 (P:=P) h (hev g w ρ hρ)
 exact ⟨_,v,g,w,h2 w,rfl,h1,Evo.refl _ _,r,Same.refl _ _ _⟩
theorem EL {T0:VT} {o:Oper} {s:List TV} {y:TV} (h:bf P T0 o.op (aT G s)=some y):i9 P G T0 o s y:=by
 intro g w ρ T hT r hρ
 obtain ⟨v,h1,h2⟩:=oa (P:=P) r (iU hT h) hρ
 exact ⟨_,v,g,w,h2 w (Same.refl _ _ _),rfl,h1,Evo.refl _ _,r,Same.refl _ _ _⟩
theorem CC {T0:VT} {o:Oper} {s:List TV} {y:TV} (h:AK P G T0 o s y):i9 P G ⟨[], []⟩ o s y∨(isRead P o.op=true∧bq P o.op (aT G s)=none∧bf P T0 o.op (aT G s)=some y):=by
 unfold AK at h
 split at h
 ·rename_i t d x hop
  cases hr:isRead P (.convert t d x) with
  | false=>
   rw [hr] at h
   obtain ⟨hpu⟩:=h
   exact .inl (qF (fun g w ρ hρ=>iB hρ _) hpu _)
  | true=>
   rw [hr] at h
   obtain ⟨h0,h1⟩:=h
   rw [hop]
   exact .inr ⟨hr,by simp [bq,dX,h0],by simp only [bf,h1]⟩
 ·rename_i t m k ok hop
  obtain ⟨h1⟩:=h
  rw [hop]
  exact .inr ⟨rfl,by simp [bq,dX],by simp only [bf,h1]⟩
 ·obtain ⟨hpu⟩:=h
  exact .inl (qF (fun g w ρ hρ=>iB hρ _) hpu _)
theorem CD {T0:VT} {o:Oper} {s:List TV} {y:TV} (h:AL P T0 o.op (aT G s)=some y):i9 P G ⟨[], []⟩ o s y∨(isRead P o.op=true∧bq P o.op (aT G s)=none∧bf P T0 o.op (aT G s)=some y):=by
 unfold AL at h
 split at h
 ·rename_i x hx
  injection h with h;subst h
  exact .inl (qF (fun _ _ _ h=>h) hx _)
 ·split at h
  ·rename_i x hx
   injection h with h;subst h
   cases hr:isRead P o.op with
   | false=>rw [hr] at hx;cases hx
   | true=>
    rw [hr] at hx
    simp only [cond_true] at hx
    exact .inr ⟨rfl,by assumption,hx⟩
  ·split at h
   ·rename_i t n ps hop
    left
    intro g w ρ T hT r hρ
    have hm:gv P T o.op (aT G s)=some (y,T):=by
     rw [hop]
     simp only [gv,Option.map_eq_some_iff] at h ⊢
     obtain ⟨z,⟨y',h1,h2⟩,h3⟩:=h
     subst h2 h3
     exact ⟨_,h1,rfl⟩
    obtain ⟨v,g',w',h1,h2,h3,h4,h5⟩:=vX (P:=P) r hm hρ
    exact ⟨_,v,g',w',h1,rfl,h2,h3,h4,h5⟩
   ·cases h

def AgreeOut (id off n:Nat) (T1 T2:VT):Prop:=(∀j,j≠id→T1.objs[j]?=T2.objs[j]?)∧(T1.objs[id]?=T2.objs[id]?∨
 (∃c1 c2,T1.objs[id]?=some (.cells c1)∧T2.objs[id]?=some (.cells c2)∧c1.length=c2.length∧∀k,(k<off∨off+n≤k)→c1[k]?=c2[k]?)∨
 (∃c1 c2,T1.objs[id]?=some (.row c1)∧T2.objs[id]?=some (.row c2)∧c1.length=c2.length∧∀k,(k<off∨off+n≤k)→c1[k]?=c2[k]?))
theorem uB {cs new:List TV} {off:Nat} (h:off+new.length≤cs.length):(cJ cs off new).length=cs.length∧∀k,(k<off∨off+new.length≤k)→cs[k]?=(cJ cs off new)[k]?:=by
  unfold cJ
  refine ⟨by simp;omega,fun k hk=> ?_⟩
  have hl:(cs.take off).length=off:=by simp;omega
  rcases hk with hk | hk
  · rw [List.append_assoc,List.getElem?_append_left (by omega),List.getElem?_take,if_pos hk]
  · rw [List.getElem?_append_right (by simp;omega),List.getElem?_drop]
    congr 1
    simp;omega
theorem CE {ro:Nat} {T T' :VT} {t:TypeId} {id off:Nat} {x:TV} {new:List TV} (hn:bF x=some new) (h:rU P ro T t (.ptr id off) x=some T'):AgreeOut id off new.length T T' ∧T'.objs.length=T.objs.length:=by
 unfold rU at h
 split at h
 ·rename_i y T1 h1
  injection h with h;subst h
  unfold l7 at h1
  simp only [hn] at h1
  split at h1
  ·rename_i cs new' i hid hnew hi
   injection hnew with hnew;subst hnew
   cases hb:(Nat.beq i.size new.length&&Nat.ble (off+new.length) cs.length&&new.all eV&&Nat.ble ro id) with
   | false=>rw [hb] at h1;cases h1
   | true=>
    rw [hb] at h1
    simp only [Bool.and_eq_true] at hb
    have hle:=Nat.le_of_ble_eq_true hb.1.1.2
    injection h1 with h1;injection h1 with _ h1;subst h1
    have hlt:=(List.getElem?_eq_some_iff.1 hid).1
    obtain ⟨k1,k2⟩:=uB hle
    exact ⟨⟨fun j hj=>by simp only [List.getElem?_set];rw [if_neg (fun e=>hj e.symm)], .inr (.inr ⟨cs,_,hid,by simp [hlt],k1.symm,k2⟩)⟩,by simp⟩
  ·cases h1
 ·cases hr:Nat.ble ro id with
  | false=>simp only [hr] at h;cases h
  | true=>
   simp only [hr,cond_true,Option.map_eq_some_iff] at h
   obtain ⟨⟨y,T1⟩,h1,h2⟩:=h
   simp only at h2;subst h2
   unfold nV at h1
   simp only [hn] at h1
   split at h1
   ·rename_i cs new' i hid hnew hi
    injection hnew with hnew;subst hnew
    split at h1
    ·rename_i hh
     injection h1 with h1;injection h1 with _ h1;subst h1
     have hlt:=(List.getElem?_eq_some_iff.1 hid).1
     obtain ⟨k1,k2⟩:=uB hh.2.1
     exact ⟨⟨fun j hj=>by simp only [List.getElem?_set];rw [if_neg (fun e=>hj e.symm)], .inr (.inl ⟨cs,_,hid,by simp [hlt],k1.symm,k2⟩)⟩,by simp⟩
    ·cases h1
   ·cases h1
theorem AgreeOut.take {id off n m:Nat} {T1 T2:VT} (h:AgreeOut id off n T1 T2):AgreeOut id off n (T1.takeO m) (T2.takeO m):=by
 have e:∀(T:VT) (j:Nat),(T.takeO m).objs[j]?=if j<m then T.objs[j]? else none:=fun T j=>by simp [VT.takeO,List.getElem?_take]
 refine ⟨fun j hj=>by rw [e,e,h.1 j hj], ?_⟩
 rw [e,e]
 by_cases hm:id<m
 ·rw [if_pos hm,if_pos hm];exact h.2
 ·rw [if_neg hm,if_neg hm];exact .inl rfl
theorem pW {c1 c2:List TV} {off n off' m:Nat} (hl:c1.length=c2.length) (h:∀k,(k<off∨off+n≤k)→c1[k]?=c2[k]?) (ha:off' +m≤off∨off+n≤off'):(c1.drop off').take m=(c2.drop off').take m:=by
 apply List.ext_getElem?
 intro k
 rw [List.getElem?_take,List.getElem?_take,List.getElem?_drop,List.getElem?_drop]
 split
 ·exact h _ (by omega)
 ·rfl
theorem AT {id off n:Nat} {T1 T2:VT} (h:AgreeOut id off n T1 T2) {op:Op} {ev:Operand→TV} (ha:apartRead P id off n op ev=true):bf P T1 op ev=bf P T2 op ev:=by
 have hne:∀id',(!(Nat.beq id' id))=true→T1.objs[id']?=T2.objs[id']?:=fun id' hb=>h.1 id' (by
  rintro rfl
  rw [Nat.beq_refl] at hb;cases hb)
 unfold apartRead at ha
 split at ha
 ·rename_i t a
  simp only [bf,dx]
  split at ha
  ·rename_i id' off' hev
   rw [hev]
   have key:∀m,(P.info? t).map (fun i=>decide (m≤max i.size 1))=some true→dF T1 (.ptr id' off') m=dF T2 (.ptr id' off') m:=by
    intro m hm
    simp only [dF]
    by_cases hid:id' =id
    ·subst hid
     rw [Nat.beq_refl] at ha
     simp only [Bool.not_true,Bool.false_or] at ha
     split at ha
     ·rename_i i hi
      rw [hi] at hm
      simp only [Option.map_some,Option.some.injEq,decide_eq_true_eq] at hm
      have hap:off' +m≤off∨off+n≤off' :=by
       simp only [Bool.or_eq_true] at ha
       rcases ha with ha | ha
       ·have:=Nat.le_of_ble_eq_true ha
        exact .inl (by omega)
       ·exact .inr (Nat.le_of_ble_eq_true ha)
      rcases h.2 with h2 | ⟨c1,c2,h2,h3,h4,h5⟩ | ⟨c1,c2,h2,h3,h4,h5⟩
      ·rw [h2]
      ·rw [h2,h3]
       simp only
       rw [h4,pW h4 h5 hap]
      ·rw [h2,h3]
       simp only
       rw [h4,pW h4 h5 hap]
     ·cases ha
    ·rw [h.1 id' hid]
   unfold iP
   cases hu:P.underlying t with
   | none=>rfl
   | some d=>
    cases hi:P.info? t with
    | none=>rfl
    | some i=>
     simp only
     rw [key i.size (by rw [hi];simp;omega),key 1 (by rw [hi];simp;omega)]
  ·rename_i cs hev
   rw [hev];rfl
  ·cases ha
 ·rename_i t m k ok
  simp only [bf]
  split at ha
  ·rename_i id' hev
   rw [hev]
   unfold dG
   simp only [hne id' ha]
  ·cases ha
 ·rename_i c
  simp only [bf,dx]
  unfold iZ
  split at ha
  ·rename_i x hc hx
   simp only [hc,hx]
   split at ha
   ·rename_i id' hev
    split
    ·rename_i t x' h1 h2
     injection h2 with h2;subst h2
     rw [hev]
     unfold lG
     simp only [hne id' ha]
    ·rfl
   ·cases ha
  ·cases ha
 ·cases ha
def gP (g:Gh) (B:Nat→Prop):Gh:={g with fr:=fun b=>g.fr b∨B b}
theorem TokOk.gh {g g' :Gh} {w:World} (ho:g'.obj=g.obj) (ht:g'.tail=g.tail) {tok:Tok} {size n b o c:Nat} (h:TokOk g w tok size n b o c):TokOk g' w tok size n b o c:=by
 cases tok<;>simp only [TokOk] at h ⊢<;>try (exact h)
 ·rw [ht];exact h
 ·rw [ho];exact h
theorem NilTok.gh {g g' :Gh} (ht:g'.tail=g.tail) {tok:Tok} {size:Nat} (h:NilTok g tok size):NilTok g' tok size:=by
 cases tok<;>simp only [NilTok] at h ⊢<;>try (exact h)
 rw [ht];exact h
theorem VR.gh {g g' :Gh} {w:World} (ho:g'.obj=g.obj) (hs:g'.st=g.st) (ht:g'.tail=g.tail) {x:TV} {u:Value} (k:VR g w x u):VR g' w x u:=by
 induction k with
 | val v=>exact .val v
 | dead v=>exact .dead v
 | ptr hb=>exact .ptr (by rw [ho];exact hb)
 | sl hb=>exact .sl (by rw [ho];exact hb)
 | map hb=>exact .map (by rw [ho];exact hb)
 | yld hb=>exact .yld (by rw [ho];exact hb)
 | row hb hl hn hm hc=>exact .row (by rw [ho];exact hb) hl hn hm hc
 | nil hk=>exact .nil (hk.gh ht)
 | odd a hk=>exact .odd a (hk.gh ho ht)
 | vec hn hc hz hk hl h1 hs' hw _ ih=>exact .vec hn hc hz (hk.gh ho ht) hl h1 (fun j hj=>by rw [hs];exact hs' j hj) hw ih
 | elt hl h1 hs' hw _ ih=>exact .elt hl h1 (fun j hj=>by rw [hs];exact hs' j hj) hw ih
 | agg hl _ ih=>exact .agg hl ih
 | tup hl _ ih=>exact .tup hl ih
 | fn hl _ hl2 _ ih ih2=>exact .fn hl ih hl2 ih2
 | ifc _ ih=>exact .ifc ih
theorem VR.toP {g:Gh} {w:World} {B:Nat→Prop} {x:TV} {u:Value} (k:VR g w x u):VR (gP g B) w x u:=VR.gh (g:=g) (g' :=gP g B) rfl rfl rfl k
theorem VR.ofP {g:Gh} {w:World} {B:Nat→Prop} {x:TV} {u:Value} (k:VR (gP g B) w x u):VR g w x u:=VR.gh (g:=gP g B) (g' :=g) rfl rfl rfl k
theorem VRs.gh {g g' :Gh} {w:World} (ho:g'.obj=g.obj) (hs:g'.st=g.st) (ht:g'.tail=g.tail) {xs:List TV} {us:List Value} (k:VRs g w xs us):VRs g' w xs us:=⟨k.1,fun j x u hx hu=>(k.2 j x u hx hu).gh ho hs ht⟩
theorem OR.gh {g g' :Gh} {w:World} (ho:g'.obj=g.obj) (hs:g'.st=g.st) (ht:g'.tail=g.tail) {b:Nat} {o:VO} (h:OR g w b o):OR g' w b o:=by
 cases o with
 | cells cs=>obtain ⟨us,t,h1,h2,h3⟩:=h;exact ⟨us,t,h1,h2.gh ho hs ht,h3⟩
 | row cs=>obtain ⟨us,t,h1,h2,h3,h4⟩:=h;exact ⟨us,t,h1,h2,h3.gh ho hs ht,h4⟩
 | map sh look es ck=>obtain ⟨ms,h1,h2,h3,h4⟩:=h;exact ⟨ms,h1,h2,h3.gh ho hs ht,h4⟩
 | iter m since seen stepped=>obtain ⟨mb,h1,h2⟩:=h;exact ⟨mb,h1,h2.gh ho hs ht⟩
 | siter s pos=>exact h
 | loop st pend σ ps asg body=>obtain ⟨us,fn,db,h1,h2⟩:=h;exact ⟨us,fn,db,h1,h2.gh ho hs ht⟩
 | defd=>exact h
 | gone=>trivial
theorem RW.frs {g g' :Gh} {T:VT} {w:World} (r:RW g T w) (ho:g'.obj=g.obj) (hs:g'.st=g.st) (ht:g'.tail=g.tail)
  (hf:∀b,g'.fr b→b<w.heap.size∧(g.fr b∨((∀(id:Nat) o,T.objs[id]?=some o→o.live=true→g.obj id≠some b)∧∀(k:Nat) x,g.tail k=some x→¬x.has b))):RW g' T w:=by
 refine ⟨?_, ?_, ?_, ?_,fun b h=>(hf b h).1, ?_, ?_, ?_, ?_, ?_, ?_, ?_⟩
 ·intro id o h hl
  obtain ⟨b,h1,h2,h3,h4⟩:=r.obj id o h hl
  refine ⟨b,by rw [ho];exact h1,h2.gh ho hs ht,fun hb=> ?_,fun o=>by rw [hs];exact h4 o⟩
  rcases (hf b hb).2 with h5 | h5
  ·exact h3 h5
  ·exact h5.1 id o h hl h1
 ·intro i j oi oj b h1 l1 h2 l2 b1 b2
  rw [ho] at b1 b2
  exact r.inj i j oi oj b h1 l1 h2 l2 b1 b2
 ·intro id hid;rw [ho];exact r.out id hid
 ·intro b o h;rw [hs] at h;exact r.st b o h
 ·intro k p h
  obtain ⟨x,h1,h2,h3,h4⟩:=r.tl k p h
  refine ⟨x,by rw [ht];exact h1,h2,h3,fun b o hi=> ?_⟩
  obtain ⟨h5,h6,h7,h8⟩:=h4 b o hi
  refine ⟨h5,h6,by rw [hs];exact h7,fun hb=> ?_⟩
  rcases (hf b hb).2 with h9 | h9
  ·exact h8 h9
  ·exact h9.2 k x h1 (.inl ⟨o,hi⟩)
 ·intro k hk;rw [ht];exact r.tout k hk
 ·intro i j x y b h1 h2;rw [ht] at h1 h2;exact r.tinj i j x y b h1 h2
 ·intro i oi b k x h1 l1 b1 hx;rw [ho] at b1;rw [ht] at hx;exact r.tobj i oi b k x h1 l1 b1 hx
 ·intro k x hx
  rw [ht] at hx
  intro h1 h2
  obtain ⟨h3,h4,h5,h6,h7⟩:=r.own k x hx h1 h2
  refine ⟨h3,h4,h5,h6,fun hb=> ?_⟩
  rcases (hf x.b hb).2 with h8 | h8
  ·exact h7 h8
  ·exact h8.2 k x hx (.inr ⟨h1,h2,rfl⟩)
 ·intro k x hx;rw [ht] at hx;exact r.own0 k x hx
 ·intro k x hx;rw [ht] at hx;exact r.tlo k x hx
theorem RW.lessFr {g g' :Gh} {T:VT} {w:World} (r:RW g T w) (ho:g'.obj=g.obj) (hs:g'.st=g.st) (ht:g'.tail=g.tail) (hf:∀b,g'.fr b→g.fr b):RW g' T w:=
 r.frs ho hs ht fun b h=>⟨r.fr b (hf b h), .inl (hf b h)⟩
theorem Evo.base {g g1:Gh} {w w1:World} {B:Nat→Prop} (e:Evo (gP g B) w g1 w1):∃g',g1=gP g' B∧g'.fr=g.fr∧Evo g w g' w1∧(∀b,B b→w1.heap[b]?=w.heap[b]?)∧∀b o,B b→g'.st b o→g.st b o:=by
 have hfr:=e.fr
 refine ⟨{g1 with fr:=g.fr}, ?_,rfl,⟨e.os,e.tape,e.output,e.size,e.obj,e.st,rfl,fun b hb=>e.frb b (.inl hb),fun b o hb h=>e.frs b o (.inl hb) h,e.tail,e.tnew,e.csz⟩,fun b hb=>e.frb b (.inr hb),fun b o hb h=>e.frs b o (.inr hb) h⟩
 cases g1
 simp only [gP] at hfr ⊢
 rw [hfr]
theorem RW.off {g:Gh} {T:VT} {w w' :World} {b:Nat} (r:RW g T w) (hfr:g.fr b) (hst:∀o,¬g.st b o) (hos:w'.os=w.os∧w'.tape=w.tape∧w'.output=w.output) (hsz:w'.heap.size=w.heap.size) (hoth:∀c,c≠b→w'.heap[c]?=w.heap[c]?) (hcs:bB w' b=bB w b):
  RW g T w' ∧∀g0:Gh,g0.st=g.st→¬g0.fr b→Evo g0 w g0 w' :=by
 have cellne:∀c p,c≠b→w'.cell? ⟨c,p,none⟩=w.cell? ⟨c,p,none⟩:=fun c p hc=>by unfold World.cell?;simp only [hoth c hc]
 have frzne:∀c p,c≠b→w'.frozen? ⟨c,p,none⟩=w.frozen? ⟨c,p,none⟩:=fun c p hc=>by unfold World.frozen?;simp only [hoth c hc]
 have csz:∀c,bB w' c=bB w c:=fun c=>by
  by_cases hc:c=b
  ·subst hc;exact hcs
  ·unfold bB;rw [hoth c hc]
 have ev:∀g0:Gh,g0.st=g.st→¬g0.fr b→Evo g0 w g0 w' :=fun g0 h1 h2=>
  ⟨hos.1,hos.2.1,hos.2.2,by omega,fun _ _ h=>h,fun c p hs=>⟨hs,cellne c p (by rintro rfl;rw [h1] at hs;exact hst p hs)⟩,rfl,fun c hc=>hoth c (by rintro rfl;exact h2 hc),fun _ _ _ h=>h,fun _ x h=>⟨x,h, .inl rfl,rfl,rfl⟩,(fun _ _ h h' =>nomatch (h.symm.trans h')),fun c _=>csz c⟩
 refine ⟨?_,ev⟩
 have e0:Evo {g with fr:=fun c=>g.fr c∧c≠b} w {g with fr:=fun c=>g.fr c∧c≠b} w' :=ev _ rfl (fun h=>h.2 rfl)
 refine ⟨?_,r.inj,r.out, ?_,fun c h=>by rw [hsz];exact r.fr c h, ?_,r.tout,r.tinj,r.tobj, ?_,r.own0,fun k x hx=>by rw [hsz];exact r.tlo k x hx⟩
 ·intro id o h hl
  obtain ⟨c,h1,h2,h3,h4⟩:=r.obj id o h hl
  have hcb:c≠b:=by rintro rfl;exact h3 hfr
  refine ⟨c,h1, ?_,h3,h4⟩
  have h5:OR {g with fr:=fun c=>g.fr c∧c≠b} w c o:=OR.gh (g:=g) (g' :={g with fr:=fun c=>g.fr c∧c≠b}) rfl rfl rfl h2
  exact OR.gh (g:={g with fr:=fun c=>g.fr c∧c≠b}) (g' :=g) rfl rfl rfl (OR.mono e0 (hoth c hcb) h5)
 ·intro c o h
  have hcb:c≠b:=by rintro rfl;exact hst o h
  rw [cellne c o hcb];exact r.st c o h
 ·intro k p h
  obtain ⟨x,h1,h2,h3,h4⟩:=r.tl k p h
  refine ⟨x,h1,h2,h3,fun c o hi=> ?_⟩
  obtain ⟨h5,h6,h7,h8⟩:=h4 c o hi
  have hcb:c≠b:=by rintro rfl;exact h8 hfr
  exact ⟨by rw [cellne c o hcb];exact h5,by rw [frzne c o hcb];exact h6,h7,h8⟩
 ·intro k x hx h1 h2
  obtain ⟨⟨cur,h3,h3'⟩,h4,h5,h6,h7⟩:=r.own k x hx h1 h2
  have hcb:x.b≠b:=fun e=>h7 (e▸hfr)
  exact ⟨⟨cur,by rw [hoth _ hcb];exact h3,h3'⟩,h4,h5,h6,h7⟩

structure CF (P:Program) (o:Oper) (blk:Obj) (f:Nat→Value) (vo:VO) (mk:Nat→TV):Prop where
 run:∀(ρ:Operand→Value) w,(∀v,ρ (.const v)=v)→(execOp ρ o).run P w= .ok (.value (f w.heap.size)) (w.alloc blk)
 live:vo.live=true
 or:∀g w b,w.heap[b]?=some blk→OR g w b vo
 vr:∀g w id b,g.obj id=some b→b<w.heap.size→w.heap[b]?=some blk→VR g w (mk id) (f b)
theorem CG {o:Oper} {T0:VT} (h:(fg P T0 o.op).isSome=true):∃blk f vo mk,CF P o blk f vo mk∧∀T,fg P T o.op=some (mk T.objs.length,{T with objs:=T.objs++ [vo]}):=by
  obtain ⟨dst,op,ty,pos,af,gd⟩:=o
  simp only at h
  cases op<;>simp only [fg] at h<;>try (cases h)
  case alloc t=>
    unfold i6 at h
    cases hi:P.info? t with
    | none=>rw [hi] at h;cases h
    | some i=>
      cases hz:i.zero with
      | none=>rw [hi] at h;simp only [hz] at h;cases h
      | some z=>
        rw [hi] at h
        simp only [hz,nU] at h
        by_cases hc:(z.cells.toList.map TV.val).all eV=true
        · refine ⟨.cells z.cells t,fun b=> .pointer (some ⟨b,0,none⟩), .cells (z.cells.toList.map .val),fun id=> .ptr id 0,⟨fun ρ w _=> ?_,rfl,fun g w b hb=> ?_,fun g w id b hb _ _=> .ptr hb⟩,fun T=> ?_⟩
          · simp [execOp,Instr.alloc,zeroValue,typeInfo,hi,hz,newVar,newRow]
          · exact ⟨z.cells.toList,t,by simpa using hb,VRs.vals g w _,gJ hc (VRs.vals g w _)⟩
          · simp only [fg,i6,hi,hz,nU,hc,if_true]
        · rw [if_neg hc] at h;cases h
  case makeMap t r=>
    cases r with
    | some r=>cases h
    | none=>
      simp only [iv] at h
      cases hu:P.underlying t with
      | none=>rw [hu] at h;cases h
      | some d=>
        rw [hu] at h
        cases d<;>simp only at h<;>try (cases h)
        rename_i kt et
        cases hs:df P kt with
        | none=>rw [hs] at h;cases h
        | some sh=>
          refine ⟨.map #[] 0,fun b=> .map (some b), .map sh (fun _=>none) [] 0,fun id=> .map id,⟨fun ρ w _=> ?_,rfl,fun g w b hb=> ?_,fun g w id b hb _ _=> .map hb⟩,fun T=> ?_⟩
          · simp [execOp,Instr.makeMap,newObj,Sem.run]
          · exact ⟨#[],hb,by simp,by simpa using VRs.nil g _,by simp,by simp,by simp,fun k _=>rfl⟩
          · simp only [fg,iv,hu,hs]
  case makeSlice t l c=>
    cases l<;>try (cases h)
    rename_i l
    cases c<;>try (cases h)
    rename_i c
    replace h:(jZ P T0 t (.val l) (.val c)).isSome=true:=h
    unfold jZ at h
    split at h
    · rename_i kl l' kc c' e h1 h2 hu
      injection h1 with h1;injection h2 with h2;subst h1 h2
      split at h
      · rename_i i hi
        split at h
        · rename_i z hz
          cases hb:(decide (0≤l')&&decide (l' ≤c')&&decide ((i.bytes:Int)*c' ≤281474976710656)&&decide (c' ≤140737488355328)&&z.cells.toList.all Value.oneCell' &&decide (0<z.cells.size)) with
          | false=>rw [hb] at h;cases h
          | true=>
            have hb' :=hb
            simp only [Bool.and_eq_true,decide_eq_true_eq] at hb
            obtain ⟨⟨⟨⟨⟨h0,h1⟩,h2⟩,h3⟩,h4⟩,h5⟩:=hb
            have hlc:l'.toNat*i.size≤c'.toNat*i.size:=Nat.mul_le_mul_right _ (by omega)
            have hlen:((fm z.cells (l'.toNat*i.size)).map TV.val).length=l'.toNat*i.size:=by simp [fm]
            refine ⟨.cells (madeCells z.cells (c'.toNat*i.size)) e,fun b=> .slice (some ⟨b,0,none⟩) l'.toNat c'.toNat, .row ((fm z.cells (l'.toNat*i.size)).map .val),fun id=> .row i.size id 0 l'.toNat,⟨fun ρ w hρ=> ?_,rfl,fun g w b hb=> ?_,fun g w id b hb hlt hblk=> ?_⟩,fun T=> ?_⟩
            · have hrun:=run_make (P:=P) w t e i z hu hi hz kl kc l' c' h0 h1 h2 (by omega)
              simp [execOp,hρ,hrun]
            · refine ⟨(madeCells z.cells (c'.toNat*i.size)).toList,e,by simpa using hb, ?_, ?_, ?_⟩
              · rw [hlen];simp [size_madeCells];exact hlc
              · rw [hlen,kV hlc];exact VRs.vals g _ _
              · intro u hu
                have hu:=List.mem_of_mem_take hu;rw [Array.mem_toList_iff] at hu
                obtain ⟨j,hj,rfl⟩:=Array.getElem_of_mem hu
                have:(madeCells z.cells (c'.toNat*i.size))[j]=z.cells[j%z.cells.size]'(Nat.mod_lt _ h5):=by
                  simp only [madeCells,Array.getElem_map,Array.getElem_range]
                  exact getElem!_pos z.cells (j%z.cells.size) (Nat.mod_lt _ h5)
                rw [this]
                exact List.all_eq_true.1 h4 _ (Array.mem_toList_iff.2 (Array.getElem_mem _))
            · have hcz:bB w b=c'.toNat*i.size:=by rw [bo hblk,size_madeCells]
              have:=VR.row (g:=g) (w:=w) (size:=i.size) (id:=id) (off:=0) (n:=l'.toNat) (b:=b) (c:=c'.toNat) hb hlt (by omega) (by unfold maxLen;omega) (by rw [hcz,Nat.zero_add])
              rw [Nat.zero_mul] at this
              exact this
            · simp only [fg,jZ,hu,hi,hz,hb',cond_true,VT.newRow]
        · cases h
      · cases h
    · cases h
end
end
section
open Go.RowKit

section
variable {P:Program} {G:aK} {F:fq} {ops:Array Oper} {r:Option Nat}
abbrev On (V:Array Bool) (k:Nat):Prop:=V.getD k false=true
theorem bY {V:Array Bool} {i k:Nat} (h:On V k):On (V.setIfInBounds i true) k:=getD_set_true h
theorem gO {V:Array Bool} {i:Nat} (h:i<V.size):On (V.setIfInBounds i true) i:=by simp [On,h]
theorem be {V:Array Bool} {i k:Nat} (h:i≠k) (hk:On (V.setIfInBounds i true) k):On V k:=by unfold On at*;rwa [getD_set_ne false h] at hk
theorem ea {V:Array Bool} {k:Nat} (h:V.getD k true=false):¬On V k:=by
 intro h'
 unfold On at h'
 rcases Nat.lt_or_ge k V.size with hk | hk
 ·simp [hk] at h h';rw [h] at h';cases h'
 ·simp [Array.getElem?_eq_none hk] at h'
theorem CH {V:Array Bool} {k:Nat} (hk:k<V.size) (h:¬On V k):V.getD k true=false:=by
 unfold On at h
 simp [hk] at h ⊢;exact h
theorem bI:∀{l:List Nat} {i:Nat},inList l i=true ↔ i∈l
 | [],i=>by simp [inList]
 | a::l,i=>by
  simp only [inList,Bool.or_eq_true,List.mem_cons,bI (l:=l)]
  constructor
  ·rintro (h | h)
   ·exact .inl (Nat.eq_of_beq_eq_true h).symm
   ·exact .inr h
  ·rintro (h | h)
   ·subst h;exact .inl (Nat.beq_refl i)
   ·exact .inr h
theorem uC (L:List Nat):∀(n:Nat) (σ:List TV) (s:Nat),(la L n σ)[s]?=(σ[s]?).map fun x=>bif inList L (n+s) then x else .dead
 | _, [],s=>by simp [la]
 | n,x::σ,0=>by simp [la]
 | n,x::σ,s+1=>by
  simp only [la,List.getElem?_cons_succ]
  rw [uC L (n+1) σ s,show n+1+s=n+(s+1) by omega]
theorem j7 (o:Oper) (σ:List TV) (s:Nat):(only ops o σ)[s]?=(σ[s]?).map fun x=>bif inList (o.looksAt ops) s then x else .dead:=by
 have:=uC (o.looksAt ops) 0 σ s
 rw [Nat.zero_add] at this;exact this
theorem EM (o:Oper) (σ:List TV):(only ops o σ).length=σ.length:=by
 have key:∀(L:List Nat) (n:Nat) (σ:List TV),(la L n σ).length=σ.length:=by
  intro L n σ
  induction σ generalizing n with
  | nil=>rfl
  | cons x σ ih=>simp [la,ih]
 exact key _ _ _
theorem iD (σ:List TV) (d:Option Tmp) (y:TV) (s:Nat):(bu σ d y)[s]?=if d=some s∧s<σ.length then some y else σ[s]?:=by
 cases d with
 | none=>simp [bu]
 | some d=>
  simp only [bu,List.getElem?_set]
  by_cases h:d=s
  ·subst h
   by_cases hl:d<σ.length
   ·simp [hl]
   ·simp [hl,List.getElem?_eq_none (Nat.le_of_not_lt hl)]
  ·simp [h]
theorem qG (σ:List TV) (d:Option Tmp) (y:TV):(bu σ d y).length=σ.length:=by cases d<;>simp [bu]
theorem jQ (a:Act) (d:Option Tmp) (v:Value) (s:Nat):(a.put d v).tmps.toList[s]?=if d=some s∧s<a.tmps.toList.length then some v else a.tmps.toList[s]?:=by
 cases d with
 | none=>simp [Act.put]
 | some d=>
  simp only [Act.put,Array.toList_setIfInBounds,List.getElem?_set]
  by_cases h:d=s
  ·subst h
   by_cases hl:d<a.tmps.size
   ·simp [hl]
   ·simp [hl,Array.getElem?_eq_none (Nat.le_of_not_lt hl)]
  ·simp [h]
theorem yQ (a:Act) (d:Option Tmp) (v:Value):(a.put d v).tmps.toList.length=a.tmps.toList.length:=by cases d<;>simp [Act.put]
theorem j8 {o:Oper} {σ:List TV} {d:Option Tmp} {y:TV} (h:∀s,d=some s→inList (o.looksAt ops) s=false):only ops o (bu σ d y)=only ops o σ:=by
 apply List.ext_getElem?
 intro s
 rw [j7,j7,iD]
 by_cases hs:d=some s∧s<σ.length
 ·rw [if_pos hs,h s hs.1,List.getElem?_eq_getElem hs.2];rfl
 ·rw [if_neg hs]
theorem dl (h:og ops=true) {i:Nat} {o:Oper} {d:Tmp} (hi:ops[i]?=some o) (hd:o.dst=some d):
    inList (o.looksAt ops) d=false∧∀(j:Nat) oj,ops[j]?=some oj→j≠i→oj.dst≠some d∧(inList (oj.looksAt ops) d=true→∃e∈oj.after,Region.binds .any e=true∧e.on=i):=by
  have hlt:=(Array.getElem?_eq_some_iff.1 hi).1
  have h1:=List.all_eq_true.1 h i (List.mem_range.2 hlt)
  simp only [hi,hd,Bool.and_eq_true,Bool.not_eq_true'] at h1
  refine ⟨h1.1,fun j oj hj hne=> ?_⟩
  have h2:=List.all_eq_true.1 h1.2 j (List.mem_range.2 (Array.getElem?_eq_some_iff.1 hj).1)
  simp only [hj,Bool.or_eq_true,Bool.and_eq_true,Bool.not_eq_true'] at h2
  rcases h2 with h2 | ⟨h2,h3⟩
  · exact absurd (Nat.eq_of_beq_eq_true h2) hne
  · refine ⟨fun e=> ?_,fun hl=> ?_⟩
    · rw [e] at h2;simp at h2
    · rcases h3 with h3 | h3
      · rw [hl] at h3;cases h3
      · obtain ⟨e,he,h4⟩:=List.any_eq_true.1 h3
        simp only [Bool.and_eq_true] at h4
        exact ⟨e,Array.mem_toList_iff.1 he,h4.1,Nat.eq_of_beq_eq_true h4.2⟩
theorem j9 (h:og ops=true) {X:Array Bool} {j:Nat} {oj:Oper} (hj:ops[j]?=some oj) (hdeps:∀e∈oj.after,Region.binds .any e=true→On X e.on) {s:Nat} (hs:inList (oj.looksAt ops) s=true) {k:Nat} {ok:Oper} (hk:ops[k]?=some ok) (hd:ok.dst=some s):k≠j∧On X k:=by
 obtain ⟨h1,h2⟩:=dl h hk hd
 by_cases hkj:j=k
 ·subst hkj
  rw [hj] at hk;injection hk with hk;subst hk
  rw [hs] at h1;cases h1
 ·obtain ⟨e,he,hb,hon⟩:=(h2 j oj hj hkj).2 hs
  exact ⟨fun h=>hkj h.symm,hon▸hdeps e he hb⟩
def RelV (ops:Array Oper) (V R:Array Bool) (g:Gh) (w:World) (σ:List TV) (tm:List Value):Prop:=
 tm.length=σ.length∧∀(s:Nat) x u,σ[s]?=some x→tm[s]?=some u→(∀(k:Nat) o,ops[k]?=some o→o.dst=some s→On V k∧On R k)→VR g w x u
theorem RelV.only {V R:Array Bool} {g:Gh} {w:World} {σ:List TV} {tm:List Value} (h:RelV ops V R g w σ tm) {o:Oper} (hl:∀s,inList (o.looksAt ops) s=true→∀(k:Nat) ok,ops[k]?=some ok→ok.dst=some s→On V k∧On R k):VRs g w (only ops o σ) tm:=by
 refine ⟨by rw [EM];exact h.1,fun s x u hx hu=> ?_⟩
 rw [j7] at hx
 cases hs:σ[s]? with
 | none=>rw [hs] at hx;cases hx
 | some z=>
  rw [hs] at hx
  simp only [Option.map_some,Option.some.injEq] at hx
  cases hb:inList (o.looksAt ops) s with
  | true=>rw [hb] at hx;simp only [cond_true] at hx;subst hx;exact h.2 s z u hs hu (hl s hb)
  | false=>rw [hb] at hx;simp only [cond_false] at hx;subst hx;exact .dead u
def Owed (P:Program) (G:aK) (ops:Array Oper) (T0:VT) (pend:List Nat) (k:Nat) (o:Oper) (σ:List TV):Prop:=b8 o.op=true∧
 ((bW ops (only ops o σ) o=some false∧∀d x,o.dst=some d→σ[d]?=some x→x= .val undef)∨
 (bW ops (only ops o σ) o=some true∧∃y,(∀d x,o.dst=some d→σ[d]?=some x→x=y)∧(i9 P G ⟨[], []⟩ o (only ops o σ) y∨(k∈pend∧bq P o.op (aT G (only ops o σ))=none∧bf P T0 o.op (aT G (only ops o σ))=some y))))
def PB (prot:Nat→Option Nat) (b:Nat):Prop:=∃k,prot k=some b
def FlSt (P:Program) (G:aK) (ops:Array Oper) (σ:List TV) (R:Array Bool) (g:Gh) (w:World) (tm:List Value) (prot:Nat→Option Nat) (i:Nat) (jo:Option Nat):Prop:=
 ∃o d b,ops[i]?=some o∧o.dst=some d∧prot i=some b∧(match jo with
  | none=>∃blk f vo mk,CF P o blk f vo mk∧(∀T,fg P T o.op=some (mk T.objs.length,{T with objs:=T.objs++ [vo]}))∧w.heap[b]?=some blk∧∀u,tm[d]?=some u→u=f b
  | some j=>∃oj t us inf,ops[j]?=some oj∧w.heap[b]?=some (.cells us.toArray t (0,0))∧(∀u,tm[d]?=some u→u= .pointer (some ⟨b,0,none⟩))∧o.op= .alloc t∧P.info? t=some inf∧us.length=inf.size∧
   (On R j→∃new,jN P o.op oj.op (aT G (only ops oj σ))=some new∧VRs g w new us∧∀u∈us,u.oneCell' =true))
structure VInv (P:Program) (G:aK) (ops:Array Oper) (flo:List (Nat × Option Nat)) (σ:List TV) (T T0:VT) (V R:Array Bool) (pend:List Nat) (g:Gh) (w:World) (tm:List Value) (prot:Nat→Option Nat):Prop where
 vs:V.size=ops.size
 rs:R.size=ops.size
 cv:Closed ops V
 cr:Closed ops R
 rv:∀k,On R k→¬On V k→k∈bU flo
 vf:∀k∈bU flo,On V k→On R k
 vb:∀i j,(i,some j)∈flo→(On V i ↔ On V j)
 rel:RelV ops V R g w σ tm
 own:∀(k:Nat) o,ops[k]?=some o→On V k→¬On R k→Owed P G ops T0 pend k o σ
 flt:∀i jo,(i,jo)∈flo→On R i→¬On V i→FlSt P G ops σ R g w tm prot i jo
 pr:∀k b,prot k=some b→(∃jo,(k,jo)∈flo)∧On R k∧¬On V k∧¬g.fr b∧(∀o,¬g.st b o)∧b<w.heap.size
 pinj:∀i j b,prot i=some b→prot j=some b→i=j
 rw:RW (gP g (PB prot)) T w
 t0:T.objs.take T0.objs.length=T0.objs
structure VStat (P:Program) (ops:Array Oper) (flo:List (Nat × Option Nat)):Prop where
 flow:dV ops=true
 once:og ops=true
 dup:rP (bU flo)=true
 flo:Cv P ops flo (bU flo)=true
theorem mX:∀{l:List Nat},rP l=true→l.Nodup
 | [],_=>List.nodup_nil
 | a::l,h=>by
  simp only [rP,Bool.and_eq_true,Bool.not_eq_true'] at h
  exact List.nodup_cons.2 ⟨dY h.1,mX h.2⟩
theorem b7:∀{flo:List (Nat × Option Nat)} {k:Nat},k∈bU flo ↔ ∃i jo,(i,jo)∈flo∧(k=i∨jo=some k)
  | [],k=>by simp [bU]
  | (i,none)::l,k=>by
    simp only [bU,List.mem_cons,b7 (flo:=l)]
    constructor
    · rintro (rfl | ⟨i',jo,h1,h2⟩)
      · exact ⟨k,none, .inl rfl, .inl rfl⟩
      · exact ⟨i',jo, .inr h1,h2⟩
    · rintro ⟨i',jo,h1 | h1,h2⟩
      · injection h1 with h1 h3;subst h1 h3
        rcases h2 with h2 | h2
        · exact .inl h2
        · cases h2
      · exact .inr ⟨i',jo,h1,h2⟩
  | (i,some j)::l,k=>by
    simp only [bU,List.mem_cons,b7 (flo:=l)]
    constructor
    · rintro (rfl | rfl | ⟨i',jo,h1,h2⟩)
      · exact ⟨k,some j, .inl rfl, .inl rfl⟩
      · exact ⟨i,some k, .inl rfl, .inr rfl⟩
      · exact ⟨i',jo, .inr h1,h2⟩
    · rintro ⟨i',jo,h1 | h1,h2⟩
      · injection h1 with h1 h3;subst h1 h3
        rcases h2 with h2 | h2
        · exact .inl h2
        · injection h2 with h2;exact .inr (.inl h2.symm)
      · exact .inr (.inr ⟨i',jo,h1,h2⟩)
theorem ek:∀{flo:List (Nat × Option Nat)},(bU flo).Nodup→∀{i jo i' jo' k},(i,jo)∈flo→(i',jo')∈flo→(k=i∨jo=some k)→(k=i' ∨jo' =some k)→i=i' ∧jo=jo'
  | [],_,_,_,_,_,_,h,_,_,_=>by cases h
  | (a,b)::l,hn,i,jo,i',jo',k,h1,h2,k1,k2=>by
    have hl:(bU l).Nodup∧∀k,(k=a∨b=some k)→k∉bU l:=by
      cases b with
      | none=>
        have:=List.nodup_cons.1 hn
        refine ⟨this.2,fun k hk=> ?_⟩
        rcases hk with rfl | hk
        · exact this.1
        · cases hk
      | some j=>
        have h3:=List.nodup_cons.1 hn
        have h4:=List.nodup_cons.1 h3.2
        refine ⟨h4.2,fun k hk=> ?_⟩
        rcases hk with rfl | hk
        · exact fun h=>h3.1 (List.mem_cons_of_mem _ h)
        · injection hk with hk;subst hk;exact h4.1
    rcases List.mem_cons.1 h1 with e1 | m1<;>rcases List.mem_cons.1 h2 with e2 | m2
    · injection e1 with e1 e1';injection e2 with e2 e2';subst e1 e1' e2 e2';exact ⟨rfl,rfl⟩
    · injection e1 with e1 e1';subst e1 e1'
      exact absurd ((b7 (flo:=l)).2 ⟨i',jo',m2,k2⟩) (hl.2 k k1)
    · injection e2 with e2 e2';subst e2 e2'
      exact absurd ((b7 (flo:=l)).2 ⟨i,jo,m1,k1⟩) (hl.2 k k2)
    · exact ek hl.1 m1 m2 k1 k2
theorem VStat.at {flo:List (Nat × Option Nat)} (st:VStat P ops flo) {i:Nat} {jo:Option Nat} (h:(i,jo)∈flo):∃o,ops[i]?=some o∧ma P o=true∧∀j,jo=some j→∃oj,ops[j]?=some oj∧mc P o oj=true∧(∃e∈oj.after,Region.binds .any e=true∧e.on=i)∧∀e∈oj.after,Region.binds .any e=true→e.on=i∨e.on∉bU flo∨boxStore flo e.on=true:=by
 have h1:=List.all_eq_true.1 st.flo (i,jo) h
 simp only at h1
 split at h1
 ·rename_i o ho
  simp only [Bool.and_eq_true] at h1
  refine ⟨o,ho,h1.1,fun j hj=> ?_⟩
  subst hj
  have h2:=h1.2
  simp only at h2
  split at h2
  ·rename_i oj hoj
   simp only [Bool.and_eq_true] at h2
   obtain ⟨⟨h3,h4⟩,h5⟩:=h2
   obtain ⟨e,he,h6⟩:=List.any_eq_true.1 h4
   simp only [Bool.and_eq_true] at h6
   refine ⟨oj,hoj,h3,⟨e,Array.mem_toList_iff.1 he,h6.1,Nat.eq_of_beq_eq_true h6.2⟩,fun e he hb=> ?_⟩
   have h7:=List.all_eq_true.1 h5 e (Array.mem_toList_iff.2 he)
   simp only [hb,Bool.not_true,Bool.false_or,Bool.or_eq_true,Bool.not_eq_true'] at h7
   rcases h7 with (h7 | h7) | h7
   ·exact .inl (Nat.eq_of_beq_eq_true h7)
   ·exact .inr (.inl (dY h7))
   ·exact .inr (.inr h7)
  ·cases h2
 ·cases h1
theorem wx {flo:List (Nat × Option Nat)} {k:Nat} (h:boxStore flo k=true):∃i,(i,some k)∈flo:=by
 obtain ⟨p,hp,h1⟩:=List.any_eq_true.1 h
 obtain ⟨i,jo⟩:=p
 cases jo with
 | none=>cases h1
 | some j=>
  have:=Nat.eq_of_beq_eq_true h1
  subst this
  exact ⟨i,hp⟩
theorem RelV.step {V R:Array Bool} {g g' :Gh} {w w' :World} {σ:List TV} {a:Act} (h:RelV ops V R g w σ a.tmps.toList) (e:Evo g w g' w') {j:Nat} {o:Oper} (ho:ops[j]?=some o) {v:Value}
  (hx:∀d x,o.dst=some d→σ[d]?=some x→On V j→VR g' w' x v):RelV ops V (R.setIfInBounds j true) g' w' σ (a.put o.dst v).tmps.toList:=by
 refine ⟨by rw [yQ];exact h.1,fun s x u hs hu hw=> ?_⟩
 rw [jQ] at hu
 by_cases hd:o.dst=some s∧s<a.tmps.toList.length
 ·rw [if_pos hd] at hu
  injection hu with hu;subst hu
  exact hx s x hd.1 hs (hw j o ho hd.1).1
 ·rw [if_neg hd] at hu
  refine (h.2 s x u hs hu fun k ok hk hdk=> ?_).mono e
  obtain ⟨h1,h2⟩:=hw k ok hk hdk
  refine ⟨h1,be (fun hjk=> ?_) h2⟩
  subst hjk
  rw [ho] at hk;injection hk with hk;subst hk
  exact hd ⟨hdk,(List.getElem?_eq_some_iff.1 hu).1⟩
theorem FlSt.step {σ:List TV} {R R' :Array Bool} {g g' :Gh} {w w' :World} {a:Act} {prot prot' :Nat→Option Nat} {i:Nat} {jo:Option Nat} (h:FlSt P G ops σ R g w a.tmps.toList prot i jo) (e:Evo g w g' w') (hh:∀b,prot i=some b→w'.heap[b]?=w.heap[b]?) (hp:prot' i=prot i)
  {d' :Option Tmp} {v:Value} (hd:∀o d,ops[i]?=some o→o.dst=some d→d' ≠some d) (hr:∀j,jo=some j→On R' j→On R j):FlSt P G ops σ R' g' w' (a.put d' v).tmps.toList prot' i jo:=by
 obtain ⟨o,d,b,h1,h2,h3,h4⟩:=h
 have ht:∀u,(a.put d' v).tmps.toList[d]?=some u→a.tmps.toList[d]?=some u:=fun u hu=>by
  rw [jQ,if_neg fun k=>hd o d h1 h2 k.1] at hu;exact hu
 refine ⟨o,d,b,h1,h2,hp.trans h3, ?_⟩
 cases jo with
 | none=>
  obtain ⟨blk,f,vo,mk,k1,k2,k3,k4⟩:=h4
  exact ⟨blk,f,vo,mk,k1,k2,(hh b h3).trans k3,fun u hu=>k4 u (ht u hu)⟩
 | some j=>
  obtain ⟨oj,t,us,inf,k1,k2,k3,k4,k5,k6,k7⟩:=h4
  refine ⟨oj,t,us,inf,k1,(hh b h3).trans k2,fun u hu=>k3 u (ht u hu),k4,k5,k6,fun hj=> ?_⟩
  obtain ⟨new,q1,q2,q3⟩:=k7 (hr j rfl hj)
  exact ⟨new,q1,q2.mono e,q3⟩
end
end
section
open Go.RowKit

section
variable {P:Program} {G:aK} {F:fq} {ops:Array Oper} {r:Option Nat} {flo:List (Nat × Option Nat)} {σ:List TV} {T T0:VT} {V R:Array Bool} {pend:List Nat} {g:Gh} {w:World} {a:Act} {prot:Nat→Option Nat}
theorem pX {QQ:Exit→Act→World→Prop} {j:Nat} {o:Oper} (ho:ops[j]?=some o) (hw:Region.wanted o (yielded ops a.tmps)=false) {K:Act→World→Prop} (h:K (a.put o.dst undef) w):wpOpIn (cK r) 0 P ops QQ j K a w:=by
 unfold wpOpIn
 simp only [ho]
 rw [if_neg (by rw [hw];exact Bool.false_ne_true)]
 exact ⟨fun _ _=>trivial,h⟩
theorem mY {QQ:Exit→Act→World→Prop} {j:Nat} {o:Oper} (hd:b8 o.op=true) (ho:ops[j]?=some o) (hw:Region.wanted o (yielded ops a.tmps)=true) {m:Next} {v:Value} {w' :World} (hrun:(execOp a.eval o).run P w= .ok m w') (hv:fc m=some v)
  {K:Act→World→Prop} (h:∀v,fc m=some v→K (a.put o.dst v) w'):wpOpIn (cK r) 0 P ops QQ j K a w:=by
 have hne:∀c,o.op≠ .defer c:=fun c hc=>by rw [hc] at hd;cases hd
 unfold wpOpIn
 simp only [ho]
 rw [if_pos hw]
 refine ⟨fun _ _=>trivial, ?_⟩
 rw [Oper.semAt_eq _ _ _ hne,hrun]
 cases m<;>simp only [fc] at hv<;>try (cases hv)
 ·exact h _ rfl
 ·exact h _ rfl
theorem GOk.toP {B:Nat→Prop} (h:GOk G g w):GOk G (gP g B) w:=fun n cs hn=>(h n cs hn).toP
theorem pY {o:Oper} (h:o.guard.isNone=true):Region.wanted o (yielded ops a.tmps)=true:=by
 unfold Region.wanted
 cases hg:o.guard with
 | none=>rfl
 | some x=>rw [hg] at h;cases h
theorem wy {n:Nat} {w' :World} {g0:Gh} {B:Nat→Prop} (h:Same (gP g0 B) T w w'):Fix n g0 T w T w' :=
 ⟨Nat.le_refl _,fun _ _ _=>rfl,fun i o b _ ho hl hb=>h.obj i o b ho hl hb⟩
theorem VInv.base (inv:VInv P G ops flo σ T T0 V R pend g w a.tmps.toList prot):RW g T w:=inv.rw.lessFr rfl rfl rfl fun _ h=> .inl h
theorem uD (st:VStat P ops flo) (inv:VInv P G ops flo σ T T0 V R pend g w a.tmps.toList prot) (hG:GOk G g w) {QQ:Exit→Act→World→Prop} {K:Act→World→Prop} {j:Nat} (hj:j∈Region.ready .any ops R) (hV:On V j)
  (next:∀g' w' (a' :Act),VInv P G ops flo σ T T0 V (R.setIfInBounds j true) pend g' w' a'.tmps.toList prot→Evo g w g' w' →(∀n,Fix n g T w T w')→a'.defers=a.defers→K a' w'):wpOpIn (cK r) 0 P ops QQ j K a w:=by
 obtain ⟨hun,o,ho,hdep⟩:=mem_ready.1 hj
 have hnR:=ea hun
 have hjs:j<R.size:=by rw [inv.rs];exact (Array.getElem?_eq_some_iff.1 ho).1
 have hdepV:∀e∈o.after,Region.binds .any e=true→On V e.on:=fun e he hb=>inv.cv j o ho hV e he hb
 have hl:∀s,inList (o.looksAt ops) s=true→∀(k:Nat) ok,ops[k]?=some ok→ok.dst=some s→On V k∧On R k:=fun s hs k ok hk hd=>
  ⟨(j9 st.once ho hdepV hs hk hd).2,(j9 st.once ho hdep hs hk hd).2⟩
 have hσ:=inv.rel.only hl
 obtain ⟨hnd,how⟩:=inv.own j o ho hV hnR
 have hjF:j∉bU flo:=fun hm=>hnR (inv.vf j hm hV)
 have key:∀(g' :Gh) (w' :World) (v:Value),Evo g w g' w' →g'.fr=g.fr→RW (gP g' (PB prot)) T w' →(∀b,PB prot b→w'.heap[b]?=w.heap[b]?)→(∀b o,PB prot b→g'.st b o→g.st b o)→(∀d x,o.dst=some d→σ[d]?=some x→VR g' w' x v)→(∀n,Fix n g T w T w')→K (a.put o.dst v) w' :=by
  intro g' w' v e hfr hrw hB hst hx hfix
  refine next g' w' _ ?_ e hfix (b6 _ _ _)
  refine ⟨inv.vs,by simpa using inv.rs,inv.cv,inv.cr.set hj, ?_,fun k hk hv=>bY (inv.vf k hk hv),inv.vb,inv.rel.step e ho fun d x hd hs _=>hx d x hd hs, ?_, ?_, ?_,inv.pinj,hrw,inv.t0⟩
  ·intro k hk hnv
   by_cases hjk:j=k
   ·subst hjk;exact absurd hV hnv
   ·exact inv.rv k (be hjk hk) hnv
  ·intro k ok hk hv hnr
   exact inv.own k ok hk hv fun h=>hnr (bY h)
  ·intro i jo hi hri hnvi
   have hne:j≠i:=fun h=>hnvi (h▸hV)
   refine (inv.flt i jo hi (be hne hri) hnvi).step e (fun b hb=>hB b ⟨i,hb⟩) rfl (fun o' d' h1 h2 h3=> ?_) (fun jj hjj hr=> ?_)
   ·exact ((dl st.once h1 h2).2 j o ho hne).1 h3
   ·subst hjj
    refine be (fun h=> ?_) hr
    subst h
    exact hjF (b7.2 ⟨i,some j,hi, .inr rfl⟩)
  ·intro k b hk
   obtain ⟨h1,h2,h3,h4,h5,h6⟩:=inv.pr k b hk
   exact ⟨h1,bY h2,h3,by rw [hfr];exact h4,fun o hs=>h5 o (hst b o ⟨k,hk⟩ hs),Nat.lt_of_lt_of_le h6 e.size⟩
 rcases how with ⟨hw,hu⟩ | ⟨hw,y,hy,hsem⟩
 ·refine pX ho (fE hw hσ) ?_
  exact key g w undef (Evo.refl _ _) rfl inv.rw (fun _ _=>rfl) (fun _ _ _ h=>h) (fun d x hd hs=>by rw [hu d x hd hs];exact .val _) (fun n=>Fix.refl _ _ _ _)
 ·have hρ:∀x,VR (gP g (PB prot)) w (aT G (only ops o σ) x) (a.eval x):=du hG.toP (VRs.gh (g:=g) (g' :=gP g (PB prot)) rfl rfl rfl hσ)
  have hs:∃Tp:VT,T.objs.take Tp.objs.length=Tp.objs∧i9 P G Tp o (only ops o σ) y:=by
   rcases hsem with h | ⟨_,_,h⟩
   ·exact ⟨⟨[], []⟩,EK T,h⟩
   ·exact ⟨T0,inv.t0,EL h⟩
  obtain ⟨Tp,hTp,hsem⟩:=hs
  obtain ⟨m,v,g1,w1,h1,h2,h3,h4,h5,h6⟩:=hsem (gP g (PB prot)) w a.eval T hTp inv.rw hρ
  obtain ⟨g',rfl,hfr,e,hB,hst⟩:=h4.base
  refine mY hnd ho (fE hw hσ) h1 h2 fun v' hv' => ?_
  rw [h2] at hv';injection hv' with hv';subst hv'
  exact key g' w1 v e hfr h5 hB hst (fun d x hd hs=>by rw [hy d x hd hs];exact h3.ofP) (fun n=>wy h6)
theorem lc {o oj:Oper} (hb:mc P o oj=true) (hl:ma P o=true):∃(d:Tmp) (t:TypeId) (inf:TypeInfo) (us:List Value) (x:Operand),o.dst=some d∧o.op= .alloc t∧oj.op= .store t (.tmp d) x∧oj.guard.isNone=true∧oj.dst=none∧x≠ .tmp d∧P.info? t=some inf∧us.length=inf.size∧
  ∀(ρ:Operand→Value) w,(execOp ρ o).run P w= .ok (.value (.pointer (some ⟨w.heap.size,0,none⟩))) (w.alloc (.cells us.toArray t)):=by
 unfold mc at hb
 split at hb
 ·rename_i d t t' d' x hd ho hoj
  simp only [Bool.and_eq_true] at hb
  obtain ⟨⟨⟨⟨⟨h1,h2⟩,h3⟩,h4⟩,h5⟩,h6⟩:=hb
  have h1:=Nat.eq_of_beq_eq_true h1
  have h2:=Nat.eq_of_beq_eq_true h2
  subst h1 h2
  split at h6
  ·rename_i inf hi
   split at h6
   ·rename_i z hz
    refine ⟨d,t,inf,z.cells.toList,x,hd,ho,hoj,h3,(by cases hq:oj.dst with | none=>rfl | some _=>rw [hq] at h4;cases h4), ?_,hi,by simpa using Nat.eq_of_beq_eq_true h6,fun ρ w=> ?_⟩
    ·rintro rfl
     simp at h5
    ·obtain ⟨dst,op,ty,pos,af,gd⟩:=o
     simp only at ho;subst ho
     simp [execOp,Instr.alloc,zeroValue,typeInfo,hi,hz,newVar,newRow]
   ·cases h6
  ·cases h6
 ·cases hb
theorem yn {o:Oper} (h:ma P o=true):(fg P ⟨[], []⟩ o.op).isSome=true∧o.guard.isNone=true∧(∃d,o.dst=some d)∧b8 o.op=true:=by
 simp only [ma,Bool.and_eq_true] at h
 exact ⟨h.1.1.1,h.1.1.2,Option.isSome_iff_exists.1 h.1.2,h.2⟩
theorem AU (st:VStat P ops flo) (inv:VInv P G ops flo σ T T0 V R pend g w a.tmps.toList prot) {QQ:Exit→Act→World→Prop} {K:Act→World→Prop} {i:Nat} {jo:Option Nat} (hf:(i,jo)∈flo) (hi:i∈Region.ready .any ops R) (hV:¬On V i)
    (next:∀g' w' (a' :Act) prot',VInv P G ops flo σ T T0 V (R.setIfInBounds i true) pend g' w' a'.tmps.toList prot' →Evo g w g' w' →(∀n,Fix n g T w T w')→a'.defers=a.defers→K a' w'):wpOpIn (cK r) 0 P ops QQ i K a w:=by
  obtain ⟨hun,o,ho,hdep⟩:=mem_ready.1 hi
  have hnR:=ea hun
  have hsz:i<R.size:=by rw [inv.rs];exact (Array.getElem?_eq_some_iff.1 ho).1
  obtain ⟨o',ho',hlate,hbox⟩:=st.at hf
  rw [ho] at ho';injection ho' with ho';subst ho'
  obtain ⟨hmk,hgd,⟨d,hd⟩,hnd⟩:=yn hlate
  have hnd' :=mX st.dup
  --what it lays
  have lay:∃blk v0,(execOp a.eval o).run P w= .ok (.value v0) (w.alloc blk)∧∀tm' :List Value,(∀u,tm'[d]?=some u→u=v0)→∀(g' :Gh) (R' :Array Bool) (prot' :Nat→Option Nat),prot' i=some w.heap.size→(∀j,jo=some j→¬On R' j)→FlSt P G ops σ R' g' (w.alloc blk) tm' prot' i jo:=by
    cases jo with
    | none=>
      obtain ⟨blk,f,vo,mk,h1,h2⟩:=CG hmk
      refine ⟨blk,f w.heap.size,h1.run a.eval w fun v=>rfl,fun tm' htm g' R' prot' hp _=>⟨o,d,w.heap.size,ho,hd,hp,blk,f,vo,mk,h1,h2,heap_alloc_new w blk,htm⟩⟩
    | some j=>
      obtain ⟨oj,hoj,hb,_,_⟩:=hbox j rfl
      obtain ⟨d',t,inf,us,x,h1,h2,h3,h4,h5,h6,h7,h8,h9⟩:=lc hb hlate
      rw [hd] at h1;injection h1 with h1;subst h1
      exact ⟨_,_,h9 a.eval w,fun tm' htm g' R' prot' hp hj=>⟨o,d,w.heap.size,ho,hd,hp,oj,t,us,inf,hoj,heap_alloc_new w _,htm,h2,h7,h8,fun h=>absurd h (hj j rfl)⟩⟩
  obtain ⟨blk,v0,hrun,hlay⟩:=lay
  refine mY hnd ho (pY hgd) hrun rfl fun v' hv' => ?_
  injection hv' with hv';subst hv'
  have hgr:Gr w (w.alloc blk):=(Gr.refl w).alloc _
  have e:=Evo.of_gr inv.base hgr
  have hsame:=Same.of_gr inv.rw hgr
  have hlt:w.heap.size<(w.alloc blk).heap.size:=(Array.getElem?_eq_some_iff.1 (heap_alloc_new w blk)).1
  have hnone:∀b,prot i≠some b:=fun b hb=>hnR (inv.pr i b hb).2.1
  refine next g (w.alloc blk) _ (fun k=>if k=i then some w.heap.size else prot k) ?_ e (fun n=>wy hsame) (b6 _ _ _)
  have hpne:∀k,k≠i→(if k=i then some w.heap.size else prot k)=prot k:=fun k hk=>if_neg hk
  refine ⟨inv.vs,by simpa using inv.rs,inv.cv,inv.cr.set hi, ?_,fun k hk hv=>bY (inv.vf k hk hv),inv.vb,inv.rel.step e ho fun _ _ _ _ h=>absurd h hV, ?_, ?_, ?_, ?_, ?_,inv.t0⟩
  · intro k hk hnv
    by_cases hik:i=k
    · subst hik;exact b7.2 ⟨i,jo,hf, .inl rfl⟩
    · exact inv.rv k (be hik hk) hnv
  · intro k ok hk hv hnr
    exact inv.own k ok hk hv fun h=>hnr (bY h)
  · intro i' jo' hf' hri hnv
    by_cases hii:i' =i
    · subst hii
      obtain ⟨_,rfl⟩:=ek hnd' hf hf' (k:=i') (.inl rfl) (.inl rfl)
      refine hlay _ (fun u hu=> ?_) g _ _ (if_pos rfl) fun j hj hon=> ?_
      · rw [jQ] at hu
        by_cases hc:o.dst=some d∧d<a.tmps.toList.length
        · rw [if_pos hc] at hu;injection hu with hu;exact hu.symm
        · rw [if_neg hc] at hu
          exact absurd ⟨hd,(List.getElem?_eq_some_iff.1 hu).1⟩ hc
      · obtain ⟨oj,hoj,_,⟨e1,he1,hb1,hon1⟩,_⟩:=hbox j hj
        have hne:i' ≠j:=by
          rintro rfl
          rw [ho] at hoj;injection hoj with hoj;subst hoj
          have:=(dC st.flow ho).1 e1 he1 hb1
          omega
        have:=inv.cr j oj hoj (be hne hon) e1 he1 hb1
        rw [hon1] at this
        exact hnR this
    · refine (inv.flt i' jo' hf' (be (fun h=>hii h.symm) hri) hnv).step e (fun b hb=>hgr.heap (inv.pr i' b hb).2.2.2.2.2) (hpne i' hii) (fun o' d' h1 h2 h3=> ?_) fun jj hjj hr=> ?_
      · exact ((dl st.once h1 h2).2 i o ho (fun h=>hii h.symm)).1 h3
      · subst hjj
        refine be (fun h=> ?_) hr
        subst h
        exact hii (ek hnd' hf' hf (k:=i) (.inr rfl) (.inl rfl)).1
  · intro k b hk
    by_cases hki:k=i
    · subst hki
      rw [if_pos rfl] at hk;injection hk with hk;subst hk
      have hfresh:=inv.rw.fresh (Nat.le_refl w.heap.size)
      exact ⟨⟨jo,hf⟩,gO hsz,hV,fun h=>hfresh.fr (.inl h),hfresh.st,hlt⟩
    · rw [if_neg hki] at hk
      obtain ⟨h1,h2,h3,h4,h5,h6⟩:=inv.pr k b hk
      exact ⟨h1,bY h2,h3,h4,h5,Nat.lt_trans h6 hlt⟩
  · intro k k' b hk hk'
    by_cases hki:k=i<;>by_cases hki' :k' =i
    · omega
    · subst hki
      rw [if_pos rfl] at hk;rw [if_neg hki'] at hk'
      injection hk with hk;subst hk
      have:=(inv.pr k' _ hk').2.2.2.2.2
      omega
    · subst hki'
      rw [if_pos rfl] at hk';rw [if_neg hki] at hk
      injection hk' with hk';subst hk'
      have:=(inv.pr k _ hk).2.2.2.2.2
      omega
    · rw [if_neg hki] at hk;rw [if_neg hki'] at hk'
      exact inv.pinj k k' b hk hk'
  · have hfresh:=inv.rw.fresh (Nat.le_refl w.heap.size)
    refine RW.frs (inv.rw.gr hgr) rfl rfl rfl fun b hb=> ?_
    rcases hb with hb | ⟨k,hk⟩
    · exact ⟨Nat.lt_of_lt_of_le (inv.rw.fr b (.inl hb)) hgr.size, .inl (.inl hb)⟩
    · replace hk:(if k=i then some w.heap.size else prot k)=some b:=hk
      by_cases hki:k=i
      · rw [if_pos hki] at hk;injection hk with hk;subst hk
        exact ⟨hlt, .inr ⟨hfresh.obj,hfresh.tl⟩⟩
      · rw [if_neg hki] at hk
        exact ⟨Nat.lt_trans (inv.pr k b hk).2.2.2.2.2 hlt, .inl (.inr ⟨k,hk⟩)⟩
end
end
section
open Go.RowKit

section
variable {P:Program} {G:aK} {F:fq} {ops:Array Oper} {r:Option Nat} {flo:List (Nat × Option Nat)} {σ:List TV} {T T0:VT} {V R:Array Bool} {pend:List Nat} {g:Gh} {w:World} {a:Act} {prot:Nat→Option Nat}
theorem mZ {flo0:List (Nat × Option Nat)}:∀{flo:List (Nat × Option Nat)},cN P G ops flo0 V σ flo=true→∀{i j},(i,some j)∈flo→¬On V i→pw ops flo0 (V.setIfInBounds i true) j=true→
    ∃o oj new d,ops[i]?=some o∧ops[j]?=some oj∧jN P o.op oj.op (aT G (only ops oj σ))=some new∧o.dst=some d∧d<σ.length
  | [],_,_,_,h,_,_=>by cases h
  | (i',none)::l,hb,i,j,h,hn,hd=>by
    simp only [cN] at hb
    rcases List.mem_cons.1 h with h | h
    · cases h
    · exact mZ hb h hn hd
  | (i',some j')::l,hb,i,j,h,hn,hd=>by
    simp only [cN,Bool.and_eq_true] at hb
    rcases List.mem_cons.1 h with h | h
    · injection h with h1 h2;injection h2 with h2;subst h1 h2
      have h3:=hb.1
      have hn' :V.getD i false=false:=by unfold On at hn;cases hq:V.getD i false<;>first | rfl | exact absurd hq hn
      rw [hn',hd] at h3
      simp only [Bool.not_true,Bool.or_self,Bool.false_or] at h3
      split at h3
      · rename_i o oj ho hoj
        simp only [Bool.and_eq_true] at h3
        obtain ⟨new,hnew⟩:=Option.isSome_iff_exists.1 h3.1
        have h4:=h3.2
        split at h4
        · rename_i d hdd
          exact ⟨o,oj,new,d,ho,hoj,hnew,hdd,Nat.le_of_ble_eq_true h4⟩
        · cases h4
      · cases h3
    · exact mZ hb.2 h hn hd
theorem wA {o oj:Oper} {t t' :TypeId} {ad x:Operand} {inf:TypeInfo} {ev:Operand→TV} {new:List TV} (h:jN P o.op oj.op ev=some new) (ho:o.op= .alloc t) (hoj:oj.op= .store t' ad x) (hi:P.info? t=some inf):bF (ev x)=some new∧inf.size=new.length∧new.all eV=true:=by
 unfold jN at h
 rw [ho,hoj] at h
 simp only [hi] at h
 split at h
 ·rename_i i new' h1 h2
  injection h1 with h1;subst h1
  cases hb:(Nat.beq inf.size new'.length&&new'.all eV) with
  | false=>rw [hb] at h;cases h
  | true=>
   rw [hb] at h
   simp only [Bool.and_eq_true] at hb
   injection h with h;subst h
   exact ⟨h2,Nat.eq_of_beq_eq_true hb.1,hb.2⟩
 ·cases h
theorem ov (st:VStat P ops flo) {k:Nat} {o:Oper} (h:boxStore flo k=true) (ho:ops[k]?=some o):o.dst=none:=by
 obtain ⟨i,hi⟩:=wx h
 obtain ⟨o2,ho2,hlate,hbox⟩:=st.at hi
 obtain ⟨oj,hoj,hib,_⟩:=hbox k rfl
 obtain ⟨_,_,_,_,_,_,_,_,_,h5,_⟩:=lc hib hlate
 rw [ho] at hoj;injection hoj with hoj;subst hoj
 exact h5
theorem AV (st:VStat P ops flo) (inv:VInv P G ops flo σ T T0 V R pend g w a.tmps.toList prot) (hG:GOk G g w) (hbx:cN P G ops flo V σ flo=true) {QQ:Exit→Act→World→Prop} {K:Act→World→Prop} {i j:Nat} (hf:(i,some j)∈flo) (hj:j∈Region.ready .any ops R) (hV:¬On V j)
  (next:∀g' w' (a' :Act),VInv P G ops flo σ T T0 V (R.setIfInBounds j true) pend g' w' a'.tmps.toList prot→Evo g w g' w' →(∀n,Fix n g T w T w')→a'.defers=a.defers→K a' w'):wpOpIn (cK r) 0 P ops QQ j K a w:=by
 obtain ⟨hun,oj,hoj,hdep⟩:=mem_ready.1 hj
 have hnR:=ea hun
 have hsz:j<R.size:=by rw [inv.rs];exact (Array.getElem?_eq_some_iff.1 hoj).1
 have hnd' :=mX st.dup
 obtain ⟨o,ho,hlate,hbox⟩:=st.at hf
 obtain ⟨oj',hoj',hib,⟨e1,he1,hb1,hon1⟩,hdeps⟩:=hbox j rfl
 rw [hoj] at hoj';injection hoj' with hoj';subst hoj'
 obtain ⟨d,t,inf,us0,x,h1,h2,h3,h4,h5,h6,h7,_,_⟩:=lc hib hlate
 have hRi:On R i:=hon1▸hdep e1 he1 hb1
 have hVi:¬On V i:=fun h=>hV ((inv.vb i j hf).1 h)
 have hdepV:∀e∈oj.after,Region.binds .any e=true→e.on=i∨On V e.on∨boxStore flo e.on=true:=fun e he hb=>by
  rcases hdeps e he hb with h | h | h
  ·exact .inl h
  ·refine .inr (.inl ?_)
   cases hq:V.getD e.on false with
   | true=>exact hq
   | false=>exact absurd (inv.rv e.on (hdep e he hb) (by unfold On;rw [hq];simp)) h
  ·exact .inr (.inr h)
 have hdi:pw ops flo (V.setIfInBounds i true) j=true:=by
  unfold pw
  rw [hoj]
  refine List.all_eq_true.2 fun e he=> ?_
  cases hb:Region.binds .any e with
  | false=>simp
  | true=>
   simp only [Bool.not_true,Bool.false_or]
   rw [Bool.or_eq_true]
   rcases hdepV e (Array.mem_toList_iff.1 he) hb with h | h | h
   ·left;rw [h];exact gO (by rw [inv.vs];exact (Array.getElem?_eq_some_iff.1 ho).1)
   ·left;exact bY h
   ·right;exact h
 obtain ⟨o',oj',new,d',k1,k2,hnew,k3,hdlt⟩:=mZ hbx hf hVi hdi
 rw [ho] at k1;injection k1 with k1;subst k1
 rw [hoj] at k2;injection k2 with k2;subst k2
 rw [h1] at k3;injection k3 with k3;subst k3
 obtain ⟨hcells,hlen,hone⟩:=wA hnew h2 h3 h7
 obtain ⟨o',d',b,q1,q2,hp,oj',t',us,inf',q3,hheap,hptr,q4,q5,hus,_⟩:=inv.flt i (some j) hf hRi hVi
 rw [ho] at q1;injection q1 with q1;subst q1
 rw [h1] at q2;injection q2 with q2;subst q2
 rw [hoj] at q3;injection q3 with q3;subst q3
 rw [h2] at q4;injection q4 with q4;subst q4
 rw [h7] at q5;injection q5 with q5;subst q5
 --the value
 have hlook:∀e,x= .tmp e→inList (oj.looksAt ops) e=true:=fun e he=>by
  rw [bI]
  unfold Oper.looksAt
  rw [h3]
  simp [Op.operands,he]
 have hx:VR g w (aT G (only ops oj σ) x) (a.eval x):=by
  cases x with
  | tmp e=>
   have hl:=hlook e rfl
   show VR g w ((only ops oj σ).getD e .dead) (a.eval (.tmp e))
   cases hs:σ[e]? with
   | none=>
    have:(only ops oj σ)[e]?=none:=by rw [j7,hs];rfl
    rw [List.getD_eq_getElem?_getD,this]
    exact .dead _
   | some z=>
    have hz:(only ops oj σ)[e]?=some z:=by rw [j7,hs,hl];rfl
    rw [List.getD_eq_getElem?_getD,hz]
    have hel:e<a.tmps.toList.length:=by rw [inv.rel.1];exact (List.getElem?_eq_some_iff.1 hs).1
    have hu:a.tmps.toList[e]?=some (a.eval (.tmp e)):=by
     rw [List.getElem?_eq_getElem hel]
     have:e<a.tmps.size:=by simpa using hel
     simp [Act.eval,this]
    refine inv.rel.2 e z _ hs hu fun k ok hk hd=> ?_
    obtain ⟨hkj,hRk⟩:=j9 st.once hoj hdep hl hk hd
    refine ⟨?_,hRk⟩
    obtain ⟨h8,h9⟩:=dl st.once hk hd
    obtain ⟨e2,he2,hb2,hon2⟩:=(h9 j oj hoj (fun h=>hkj h.symm)).2 hl
    rcases hdepV e2 he2 hb2 with h | h | h
    rotate_left 2
    ·exfalso
     rw [hon2] at h
     rw [ov st h hk] at hd;cases hd
    ·exfalso
     rw [hon2] at h;subst h
     rw [ho] at hk;injection hk with hk;subst hk
     rw [h1] at hd;injection hd with hd;subst hd
     exact h6 rfl
    ·rw [hon2] at h;exact h
  | const v=>exact .val _
  | global n=>
   have:=du (a:=a) (σ:= []) (G:=G) (g:=g) (w:=w)
   show VR g w (aT G [] (.global n)) (a.eval (.global n))
   simp only [aT]
   split
   ·rename_i cs hn;exact hG n cs hn
   ·exact .val _
  | func f=>exact .fn (us:= []) (vs:= []) rfl (fun j x u h=>by simp at h) rfl (fun j x u h=>by simp at h)
 have ha:a.eval (.tmp d)= .pointer (some ⟨b,0,none⟩):=by
  have hel:d<a.tmps.toList.length:=by rw [inv.rel.1];exact hdlt
  have hu:a.tmps.toList[d]?=some (a.eval (.tmp d)):=by
   rw [List.getElem?_eq_getElem hel]
   have:d<a.tmps.size:=by simpa using hel
   simp [Act.eval,this]
  exact hptr _ hu
 generalize hux:a.eval x=u at hx
 have k:=gY hcells hx
 have hoc:=gJ hone k
 have hl:u.cells.toList.length=new.length:=k.1
 have hrun0:=run_storeCells_at (P:=P) b 0 t u.cells.toList 0 us.toArray w hheap (by simp at hl ⊢;omega) hoc
 simp only [Nat.add_zero,hl] at hrun0
 have hnd:b8 oj.op=true:=by rw [h3];rfl
 have hcsz:bB (w.setRow b (us.take 0++u.cells.toList++us.drop (0+new.length)).toArray) b=bB w b:=by
  rw [bo (setRow_heap w b us.toArray _ t (0,0) hheap),bo hheap]
  simp at hl ⊢;omega
 have hrow:(us.take 0++u.cells.toList++us.drop (0+new.length))=u.cells.toList:=by
  rw [List.take_zero,List.nil_append,Nat.zero_add,List.drop_eq_nil_of_le (by omega),List.append_nil]
 have hrun:(execOp a.eval oj).run P w= .ok .skip (w.setRow b (us.take 0++u.cells.toList++us.drop (0+new.length)).toArray):=by
  have hs:u.cells.size=inf.size:=by rw [hlen,←hl];simp
  have:(Instr.storeAt t (a.eval (.tmp d)) u).run P w= .ok () (w.setRow b (us.take 0++u.cells.toList++us.drop (0+new.length)).toArray):=by
   rw [ha]
   simp only [Instr.storeAt,Instr.sureAddr,storeVar,Sem.run_bind,Sem.run_pure,Result.andThen_ok,bx h7,hs]
   simpa using hrun0
  obtain ⟨dst,op,ty,pos,af,gd⟩:=oj
  simp only at h3;subst h3
  simp [execOp,hux,this]
 refine mY (v:=undef) hnd hoj (pY h4) hrun rfl fun v' hv' => ?_
 injection hv' with hv';subst hv'
 rw [hrow] at hcsz ⊢
 obtain ⟨p1,p2,p3,p4,p5,p6⟩:=inv.pr i b hp
 have hoth:∀c,c≠b→(w.setRow b u.cells.toList.toArray).heap[c]?=w.heap[c]?:=fun c hc=>setRow_other w b c _ hc
 obtain ⟨hrw',hev⟩:=inv.rw.off (b:=b) (w' :=w.setRow b u.cells.toList.toArray) (.inr ⟨i,hp⟩) p5 ⟨rfl,rfl,rfl⟩ (by simp) hoth hcsz
 have e:=hev g rfl p4
 have hfix:∀n,Fix n g T w T (w.setRow b u.cells.toList.toArray):=fun n=>⟨Nat.le_refl _,fun _ _ _=>rfl,fun id o' b' _ ho' hl' hb' =>hoth b' fun h=>by
  subst h
  obtain ⟨b2,y1,_,y3,_⟩:=inv.rw.obj id o' ho' hl'
  have y1' :g.obj id=some b2:=y1
  rw [hb'] at y1';injection y1' with y1';subst y1'
  exact y3 (.inr ⟨i,hp⟩)⟩
 have hdst:oj.dst=none:=h5
 refine next g _ (a.put oj.dst undef) ?_ e hfix (b6 _ _ _)
 refine ⟨inv.vs,by simpa using inv.rs,inv.cv,inv.cr.set hj, ?_,fun k hk hv=>bY (inv.vf k hk hv),inv.vb,inv.rel.step e hoj fun d x hd _ _=>(by rw [hdst] at hd;cases hd), ?_, ?_, ?_,inv.pinj,hrw',inv.t0⟩
 ·intro k' hk hnv
  by_cases hjk:j=k'
  ·subst hjk;exact b7.2 ⟨i,some j,hf, .inr rfl⟩
  ·exact inv.rv k' (be hjk hk) hnv
 ·intro k' ok hk hv hnr
  exact inv.own k' ok hk hv fun h=>hnr (bY h)
 ·intro i' jo' hf' hri hnv
  by_cases hii:i' =i
  ·subst hii
   obtain ⟨_,rfl⟩:=ek hnd' hf hf' (k:=i') (.inl rfl) (.inl rfl)
   refine ⟨o,d,b,ho,h1,hp,oj,t,u.cells.toList,inf,hoj,setRow_heap w b us.toArray _ t (0,0) hheap,fun u' hu' => ?_,h2,h7,by omega,fun _=>⟨new,hnew,k.mono e,hoc⟩⟩
   rw [jQ,if_neg (by rw [hdst];rintro ⟨h,_⟩;cases h)] at hu'
   exact hptr u' hu'
  ·have hri' :On R i' :=be (fun h=>by
    subst h
    exact hii (ek hnd' hf' hf (k:=j) (.inl rfl) (.inr rfl)).1) hri
   refine (inv.flt i' jo' hf' hri' hnv).step e (fun b' hb' =>hoth b' fun h=>by subst h;exact hii (inv.pinj i' i b' hb' hp)) rfl (fun o' d' _ _ h3' =>by rw [hdst] at h3';cases h3') fun jj hjj hr=> ?_
   subst hjj
   refine be (fun h=> ?_) hr
   subst h
   exact hii (ek hnd' hf' hf (k:=j) (.inr rfl) (.inr rfl)).1
 ·intro k' b' hk
  obtain ⟨y1,y2,y3,y4,y5,y6⟩:=inv.pr k' b' hk
  exact ⟨y1,bY y2,y3,y4,y5,Nat.lt_of_lt_of_le y6 e.size⟩
end
end
section
open Go.RowKit

section
variable {P:Program} {G:aK} {F:fq} {ops:Array Oper} {r:Option Nat} {flo:List (Nat × Option Nat)} {σ:List TV} {T T0:VT} {V R:Array Bool} {pend:List Nat} {g:Gh} {w:World} {a:Act} {prot:Nat→Option Nat}
theorem Owed.put (st:VStat P ops flo) (hcv:Closed ops V) {i k:Nat} {o ok:Oper} (ho:ops[i]?=some o) (hVi:¬On V i) (hk:ops[k]?=some ok) (hVk:On V k) {y:TV} {pend' :List Nat} (hp:∀k∈pend,k∈pend') (h:Owed P G ops T0 pend k ok σ):Owed P G ops T0 pend' k ok (bu σ o.dst y):=by
 have hki:k≠i:=fun e=>hVi (e▸hVk)
 have hon:only ops ok (bu σ o.dst y)=only ops ok σ:=j8 fun s hs=>by
  cases hl:inList (ok.looksAt ops) s with
  | false=>rfl
  | true=>
   obtain ⟨e,he,hb,hon⟩:=((dl st.once ho hs).2 k ok hk hki).2 hl
   exact absurd (hon▸hcv k ok hk hVk e he hb) hVi
 have hat:∀d x,ok.dst=some d→(bu σ o.dst y)[d]?=some x→σ[d]?=some x:=fun d x hd hx=>by
  rw [iD,if_neg] at hx
  ·exact hx
  ·rintro ⟨h1,_⟩
   exact ((dl st.once ho h1).2 k ok hk hki).1 hd
 obtain ⟨h0,h1⟩:=h
 refine ⟨h0, ?_⟩
 rw [hon]
 rcases h1 with ⟨h1,h2⟩ | ⟨h1,z,h2,h3⟩
 ·exact .inl ⟨h1,fun d x hd hx=>h2 d x hd (hat d x hd hx)⟩
 ·refine .inr ⟨h1,z,fun d x hd hx=>h2 d x hd (hat d x hd hx), ?_⟩
  rcases h3 with h3 | ⟨h3,h4⟩
  ·exact .inl h3
  ·exact .inr ⟨hp k h3,h4⟩
theorem FlSt.sig {R:Array Bool} {tm:List Value} {i:Nat} {jo:Option Nat} {σ' :List TV} (h:FlSt P G ops σ R g w tm prot i jo) (hs:∀(j:Nat) oj,jo=some j→ops[j]?=some oj→On R j→only ops oj σ' =only ops oj σ):FlSt P G ops σ' R g w tm prot i jo:=by
 obtain ⟨o,d,b,h1,h2,h3,h4⟩:=h
 refine ⟨o,d,b,h1,h2,h3, ?_⟩
 cases jo with
 | none=>exact h4
 | some j=>
  obtain ⟨oj,t,us,inf,k1,k2,k3,k4,k5,k6,k7⟩:=h4
  refine ⟨oj,t,us,inf,k1,k2,k3,k4,k5,k6,fun hj=> ?_⟩
  rw [hs j oj rfl k1 hj];exact k7 hj
theorem EN (st:VStat P ops flo) (inv:VInv P G ops flo σ T T0 V R pend g w a.tmps.toList prot) {i:Nat} {o:Oper} (ho:ops[i]?=some o) (hi:i∈Region.ready .any ops V) (hF:i∉bU flo) (hnd:b8 o.op=true) {y:TV} {pend' :List Nat} (hp:∀k∈pend,k∈pend')
    (how:(bW ops (only ops o σ) o=some false∧y= .val undef)∨(bW ops (only ops o σ) o=some true∧(i9 P G ⟨[], []⟩ o (only ops o σ) y∨(i∈pend' ∧bq P o.op (aT G (only ops o σ))=none∧bf P T0 o.op (aT G (only ops o σ))=some y)))):
    VInv P G ops flo (bu σ o.dst y) T T0 (V.setIfInBounds i true) R pend' g w a.tmps.toList prot:=by
  obtain ⟨hun,o',ho',hdep⟩:=mem_ready.1 hi
  rw [ho] at ho';injection ho' with ho';subst ho'
  have hVi:=ea hun
  have hRi:¬On R i:=fun h=>hF (inv.rv i h hVi)
  have hlt:=(Array.getElem?_eq_some_iff.1 ho).1
  refine ⟨by simpa using inv.vs,inv.rs,inv.cv.set hi,inv.cr,fun k hk hnv=>inv.rv k hk fun h=>hnv (bY h),fun k hk hv=> ?_,fun i' j' h=> ?_, ?_,fun k ok hk hv hnr=> ?_,fun i' jo hf hri hnv=> ?_,fun k b hk=> ?_,inv.pinj,inv.rw,inv.t0⟩
  · exact inv.vf k hk (be (fun h=>hF (by rw [h];exact hk)) hv)
  · have h1:i≠i' :=fun e=>hF (b7.2 ⟨i',some j',h, .inl e⟩)
    have h2:i≠j' :=fun e=>hF (b7.2 ⟨i',some j',h, .inr (by rw [e])⟩)
    exact ⟨fun h3=>bY ((inv.vb i' j' h).1 (be h1 h3)),fun h3=>bY ((inv.vb i' j' h).2 (be h2 h3))⟩
  · refine ⟨by rw [qG];exact inv.rel.1,fun s x u hs hu hw=> ?_⟩
    have hne:o.dst≠some s:=fun hd=>hRi (hw i o ho hd).2
    rw [iD,if_neg fun h=>hne h.1] at hs
    refine inv.rel.2 s x u hs hu fun k ok hk hd=> ?_
    obtain ⟨h1,h2⟩:=hw k ok hk hd
    refine ⟨be (fun h=> ?_) h1,h2⟩
    subst h
    rw [ho] at hk;injection hk with hk;subst hk
    exact hne hd
  · by_cases hki:i=k
    · subst hki
      rw [ho] at hk;injection hk with hk;subst hk
      have hself:∀s,o.dst=some s→inList (o.looksAt ops) s=false:=fun s hs=>(dl st.once ho hs).1
      have hat:∀d x,o.dst=some d→(bu σ o.dst y)[d]?=some x→x=y:=fun d x hd hx=>by
        rw [iD] at hx
        by_cases hc:o.dst=some d∧d<σ.length
        · rw [if_pos hc] at hx;injection hx with hx;exact hx.symm
        · rw [if_neg hc] at hx
          exact absurd ⟨hd,(List.getElem?_eq_some_iff.1 hx).1⟩ hc
      refine ⟨hnd, ?_⟩
      rw [j8 hself]
      rcases how with ⟨h1,h2⟩ | ⟨h1,h2⟩
      · exact .inl ⟨h1,fun d x hd hx=>(hat d x hd hx).trans h2⟩
      · exact .inr ⟨h1,y,hat,h2⟩
    · have hv' :=be hki hv
      exact (inv.own k ok hk hv' hnr).put st inv.cv ho hVi hk hv' hp
  · refine (inv.flt i' jo hf hri fun h=>hnv (bY h)).sig fun j oj hj hoj hrj=>j8 fun s hs=> ?_
    subst hj
    cases hl:inList (oj.looksAt ops) s with
    | false=>rfl
    | true=>
      have hji:j≠i:=fun e=>hRi (e▸hrj)
      obtain ⟨e,he,hb,hon⟩:=((dl st.once ho hs).2 j oj hoj hji).2 hl
      exact absurd (hon▸inv.cr j oj hoj hrj e he hb) hRi
  · obtain ⟨h1,h2,h3,h4⟩:=inv.pr k b hk
    refine ⟨h1,h2,fun h=> ?_,h4⟩
    by_cases hik:i=k
    · subst hik;exact hRi h2
    · exact h3 (be hik h)
theorem yR {n:Nat} {o:VO}:Fix n g T w {T with objs:=T.objs++ [o]} w:=
 ⟨by simp,fun i _ hl=>by rw [List.getElem?_append_left hl],fun _ _ _ _ _ _ _=>rfl⟩
theorem rW (st:VStat P ops flo) (inv:VInv P G ops flo σ T T0 V R pend g w a.tmps.toList prot) {i:Nat} {jo:Option Nat} {o:Oper} (ho:ops[i]?=some o) (hf:(i,jo)∈flo) (hi:i∈Region.ready .any ops V) (hRi:On R i) (hRj:∀j,jo=some j→On R j) {V' :Array Bool}
    (hV' :∀k,On V' k ↔ (k=i∨jo=some k)∨On V k) (hvs:V'.size=ops.size) (hcv:Closed ops V') {b:Nat} (hb:prot i=some b) {vo:VO} {y:TV} (hl:vo.live=true) (hor:OR g w b vo) (hy:∀d u,o.dst=some d→a.tmps.toList[d]?=some u→∀g' :Gh,g'.obj T.objs.length=some b→VR g' w y u):
    ∃g' prot',VInv P G ops flo (bu σ o.dst y) {T with objs:=T.objs++ [vo]} T0 V' R pend g' w a.tmps.toList prot' ∧Evo g w g' w:=by
  obtain ⟨hun,o',ho',hdep⟩:=mem_ready.1 hi
  rw [ho] at ho';injection ho' with ho';subst ho'
  have hVi:=ea hun
  have hnd' :=mX st.dup
  have hiF:i∈bU flo:=b7.2 ⟨i,jo,hf, .inl rfl⟩
  obtain ⟨p1,p2,p3,p4,p5,p6⟩:=inv.pr i b hb
  have hout:g.obj T.objs.length=none:=inv.rw.out _ (Nat.le_refl _)
  have e:Evo g w (g.addObj T.objs.length b) w:=Evo.addObj hout
  have hpne:∀k,k≠i→(if k=i then none else prot k)=prot k:=fun k hk=>if_neg hk
  have hPB:∀c,PB (fun k=>if k=i then none else prot k) c→PB prot c∧c≠b:=by
    rintro c ⟨k,hk⟩
    replace hk:(if k=i then none else prot k)=some c:=hk
    by_cases hki:k=i
    · rw [if_pos hki] at hk;cases hk
    · rw [if_neg hki] at hk
      exact ⟨⟨k,hk⟩,fun h=>hki (inv.pinj k i b (h▸hk) hb)⟩
  have r1:RW (gP g (PB fun k=>if k=i then none else prot k)) T w:=inv.rw.lessFr rfl rfl rfl fun c hc=>by
    rcases hc with hc | hc
    · exact .inl hc
    · exact .inr (hPB c hc).1
  have hfresh:rx (gP g (PB fun k=>if k=i then none else prot k)) T b:=by
    refine ⟨fun hc=> ?_,p5,fun id o hid hlo hob=> ?_,fun k x hx hh=> ?_⟩
    · rcases hc with hc | hc
      · exact p4 hc
      · exact (hPB b hc).2 rfl
    · obtain ⟨c,h1,_,h3,_⟩:=inv.rw.obj id o hid hlo
      have h1' :g.obj id=some c:=h1
      have hob' :g.obj id=some b:=hob
      rw [h1'] at hob';injection hob' with hob';subst hob'
      exact h3 (.inr ⟨i,hb⟩)
    · rcases hh with ⟨o2,hin⟩ | ⟨h1,h2,h3⟩
      · rcases Nat.lt_or_ge k T.tails.length with hk | hk
        · obtain ⟨x',y1,_,_,y4⟩:=inv.rw.tl k T.tails[k] (List.getElem?_eq_getElem hk)
          have y1' :g.tail k=some x' :=y1
          have hx' :g.tail k=some x:=hx
          rw [hx'] at y1';injection y1' with y1';subst y1'
          exact (y4 b o2 hin).2.2.2 (.inr ⟨i,hb⟩)
        · have:=r1.tout k hk
          rw [hx] at this;cases this
      · have:=(inv.rw.own k x hx h1 h2).2.2.2.2
        rw [h3] at this
        exact this (.inr ⟨i,hb⟩)
  have r2:=r1.addObj hfresh hl (OR.gh (g:=g) (g' :=gP g (PB fun k=>if k=i then none else prot k)) rfl rfl rfl hor)
  have hV'j:∀k,On V' k→¬On V k→k=i∨jo=some k:=fun k h1 h2=>by
    rcases (hV' k).1 h1 with h | h
    · exact h
    · exact absurd h h2
  refine ⟨g.addObj T.objs.length b,fun k=>if k=i then none else prot k, ?_,e⟩
  refine ⟨hvs,inv.rs,hcv,inv.cr,fun k hk hnv=>inv.rv k hk fun h=>hnv ((hV' k).2 (.inr h)),fun k hk hv=> ?_,fun i' j' h=> ?_, ?_,fun k ok hk hv hnr=> ?_,fun i' jo' hf' hri hnv=> ?_,fun k c hk=> ?_,fun k k' c hk hk' => ?_,r2, ?_⟩
  · rcases (hV' k).1 hv with (h | h) | h
    · subst h;exact hRi
    · exact hRj k h
    · exact inv.vf k hk h
  · constructor
    · intro h1
      rcases (hV' i').1 h1 with h2 | h2
      · obtain ⟨rfl,rfl⟩:=ek hnd' hf h h2 (.inl rfl)
        exact (hV' j').2 (.inl (.inr rfl))
      · exact (hV' j').2 (.inr ((inv.vb i' j' h).1 h2))
    · intro h1
      rcases (hV' j').1 h1 with h2 | h2
      · obtain ⟨rfl,rfl⟩:=ek hnd' hf h h2 (.inr rfl)
        exact (hV' i).2 (.inl (.inl rfl))
      · exact (hV' i').2 (.inr ((inv.vb i' j' h).2 h2))
  · refine ⟨by rw [qG];exact inv.rel.1,fun s x u hs hu hw=> ?_⟩
    rw [iD] at hs
    by_cases hc:o.dst=some s∧s<σ.length
    · rw [if_pos hc] at hs;injection hs with hs;subst hs
      exact hy s u hc.1 hu _ (by simp [Gh.addObj])
    · rw [if_neg hc] at hs
      have hne:o.dst≠some s:=fun hd=>hc ⟨hd,(List.getElem?_eq_some_iff.1 hs).1⟩
      refine (inv.rel.2 s x u hs hu fun k ok hk hd=> ?_).mono e
      obtain ⟨h1,h2⟩:=hw k ok hk hd
      refine ⟨?_,h2⟩
      rcases (hV' k).1 h1 with (h | h) | h
      · subst h
        rw [ho] at hk;injection hk with hk;subst hk
        exact absurd hd hne
      · exfalso
        --a box's store writes no slot
        obtain ⟨o2,ho2,hlate,hbox⟩:=st.at hf
        obtain ⟨oj,hoj,hib,_⟩:=hbox k h
        obtain ⟨_,_,_,_,_,_,_,_,_,h5,_⟩:=lc hib hlate
        rw [hk] at hoj;injection hoj with hoj;subst hoj
        rw [h5] at hd;cases hd
      · exact h
  · rcases (hV' k).1 hv with (h | h) | h
    · subst h;exact absurd hRi hnr
    · exact absurd (hRj k h) hnr
    · exact (inv.own k ok hk h hnr).put st inv.cv ho hVi hk h fun _ h=>h
  · have hnv0:¬On V i' :=fun h=>hnv ((hV' i').2 (.inr h))
    have hii:i' ≠i:=fun h=>hnv ((hV' i').2 (.inl (.inl h)))
    have h0:=(inv.flt i' jo' hf' hri hnv0).sig (σ' :=bu σ o.dst y) fun j oj hj hoj hrj=>j8 fun s hs=>by
      subst hj
      cases hlk:inList (oj.looksAt ops) s with
      | false=>rfl
      | true=>
        exfalso
        have hji:j≠i:=fun e=>hii (ek hnd' hf' hf (k:=i) (.inr (by rw [e])) (.inl rfl)).1
        obtain ⟨e1,he,hb1,hon⟩:=((dl st.once ho hs).2 j oj hoj hji).2 hlk
        obtain ⟨o2,ho2,_,hbox⟩:=st.at hf'
        obtain ⟨oj',hoj',_,_,hdeps⟩:=hbox j rfl
        rw [hoj] at hoj';injection hoj' with hoj';subst hoj'
        rcases hdeps e1 he hb1 with h | h | h
        · exact hii (h.symm.trans hon)
        · exact h (hon▸hiF)
        · rw [hon] at h
          rw [ov st h ho] at hs;cases hs
    have h1:=h0.step (g' :=g.addObj T.objs.length b) (w' :=w) (a:=a) (R' :=R) (prot' :=fun k=>if k=i then none else prot k) e (fun _ _=>rfl) (hpne i' hii) (d' :=none) (v:=undef) (fun _ _ _ _ h=>by cases h) (fun _ _ h=>h)
    simpa [Act.put] using h1
  · replace hk:(if k=i then none else prot k)=some c:=hk
    by_cases hki:k=i
    · rw [if_pos hki] at hk;cases hk
    · rw [if_neg hki] at hk
      obtain ⟨h1,h2,h3,h4,h5,h6⟩:=inv.pr k c hk
      refine ⟨h1,h2,fun h=> ?_,h4,h5,h6⟩
      rcases (hV' k).1 h with (h | h) | h
      · exact hki h
      · obtain ⟨jo',hjo'⟩:=h1
        exact hki (ek hnd' hjo' hf (k:=k) (.inl rfl) (.inr h)).1
      · exact h3 h
  · replace hk:(if k=i then none else prot k)=some c:=hk
    replace hk' :(if k' =i then none else prot k')=some c:=hk'
    by_cases hki:k=i
    · rw [if_pos hki] at hk;cases hk
    · by_cases hki' :k' =i
      · rw [if_pos hki'] at hk';cases hk'
      · rw [if_neg hki] at hk;rw [if_neg hki'] at hk'
        exact inv.pinj k k' c hk hk'
  · have hle:T0.objs.length≤T.objs.length:=by
      have:=congrArg List.length inv.t0
      rw [List.length_take] at this;omega
    show (T.objs++ [vo]).take T0.objs.length=T0.objs
    rw [List.take_append_of_le_length hle];exact inv.t0
end
end
section
open Go.RowKit

section
variable {P:Program} {G:aK} {F:fq} {ops:Array Oper} {r:Option Nat} {flo:List (Nat × Option Nat)} {σ:List TV} {T T0:VT} {V R:Array Bool} {pend:List Nat} {g:Gh} {w:World} {a:Act} {prot:Nat→Option Nat}
theorem VInv.turned (st:VStat P ops flo) (inv:VInv P G ops flo σ T T0 V R pend g w a.tmps.toList prot) {i:Nat} {o:Oper} (ho:ops[i]?=some o) (hiR:i∈Region.ready .any ops R) (hiV:i∈Region.ready .any ops V) (hF:i∉bU flo)
    {g' :Gh} {w' :World} {v:Value} {y:TV} {T' T0' :VT} {pend' :List Nat} (e:Evo g w g' w') (hfr:g'.fr=g.fr) (hB:∀b,PB prot b→w'.heap[b]?=w.heap[b]?) (hst:∀b o,PB prot b→g'.st b o→g.st b o) (hrw:RW (gP g' (PB prot)) T' w') (hy:∀d u,o.dst=some d→(a.put o.dst v).tmps.toList[d]?=some u→VR g' w' y u)
    (ht0:T'.objs.take T0'.objs.length=T0'.objs) (hpend:∀k ok y,k∈pend→ops[k]?=some ok→¬On R k→bW ops (only ops ok σ) ok=some true→bq P ok.op (aT G (only ops ok σ))=none→bf P T0 ok.op (aT G (only ops ok σ))=some y→k∈pend' ∧bf P T0' ok.op (aT G (only ops ok σ))=some y):
    VInv P G ops flo (bu σ o.dst y) T' T0' (V.setIfInBounds i true) (R.setIfInBounds i true) pend' g' w' (a.put o.dst v).tmps.toList prot:=by
  obtain ⟨hun,o',ho',hdep⟩:=mem_ready.1 hiR
  rw [ho] at ho';injection ho' with ho';subst ho'
  have hnR:=ea hun
  have hVi:=ea (mem_ready.1 hiV).1
  have hlt:=(Array.getElem?_eq_some_iff.1 ho).1
  refine ⟨by simpa using inv.vs,by simpa using inv.rs,inv.cv.set hiV,inv.cr.set hiR,fun k hk hnv=> ?_,fun k hk hv=>bY (inv.vf k hk (be (fun h=>hF (by rw [h];exact hk)) hv)),fun i' j' h=> ?_, ?_,fun k ok hk hv hnr=> ?_,fun i' jo hf hri hnv=> ?_,fun k b hk=> ?_,inv.pinj,hrw,ht0⟩
  · by_cases hik:i=k
    · subst hik;exact absurd (gO (by rw [inv.vs];exact hlt)) hnv
    · exact inv.rv k (be hik hk) fun h=>hnv (bY h)
  · have h1:i≠i' :=fun e=>hF (b7.2 ⟨i',some j',h, .inl e⟩)
    have h2:i≠j' :=fun e=>hF (b7.2 ⟨i',some j',h, .inr (by rw [e])⟩)
    exact ⟨fun h3=>bY ((inv.vb i' j' h).1 (be h1 h3)),fun h3=>bY ((inv.vb i' j' h).2 (be h2 h3))⟩
  · refine ⟨by rw [qG,yQ];exact inv.rel.1,fun s x u hs hu hw=> ?_⟩
    rw [iD] at hs
    by_cases hc:o.dst=some s∧s<σ.length
    · rw [if_pos hc] at hs;injection hs with hs;subst hs
      exact hy s u hc.1 hu
    · rw [if_neg hc] at hs
      have hne:o.dst≠some s:=fun hd=>hc ⟨hd,(List.getElem?_eq_some_iff.1 hs).1⟩
      rw [jQ,if_neg fun h=>hne h.1] at hu
      refine (inv.rel.2 s x u hs hu fun k ok hk hd=> ?_).mono e
      obtain ⟨h1,h2⟩:=hw k ok hk hd
      have hik:i≠k:=fun h=>by
        subst h
        rw [ho] at hk;injection hk with hk;subst hk
        exact hne hd
      exact ⟨be hik h1,be hik h2⟩
  · have hki:i≠k:=fun h=>hnr (h▸gO (by rw [inv.rs];exact hlt))
    have hv' :=be hki hv
    have hnr' :¬On R k:=fun h=>hnr (bY h)
    have h1:Owed P G ops T0' pend' k ok σ:=by
      obtain ⟨h2,h3⟩:=inv.own k ok hk hv' hnr'
      refine ⟨h2, ?_⟩
      rcases h3 with h3 | ⟨h3,z,h4,h5⟩
      · exact .inl h3
      · refine .inr ⟨h3,z,h4, ?_⟩
        rcases h5 with h5 | ⟨h5,h6,h7⟩
        · exact .inl h5
        · obtain ⟨h8,h9⟩:=hpend k ok z h5 hk hnr' h3 h6 h7
          exact .inr ⟨h8,h6,h9⟩
    exact h1.put (y:=y) (pend' :=pend') st inv.cv ho hVi hk hv' fun _ h=>h
  · have hii:i≠i' :=fun h=>hF (b7.2 ⟨i',jo,hf, .inl h⟩)
    have hri' :=be hii hri
    have hnv' :¬On V i' :=fun h=>hnv (bY h)
    have h0:=(inv.flt i' jo hf hri' hnv').sig (σ' :=bu σ o.dst y) fun j oj hj hoj hrj=>j8 fun s hs=>by
      subst hj
      cases hlk:inList (oj.looksAt ops) s with
      | false=>rfl
      | true=>
        exfalso
        have hji:j≠i:=fun e=>hF (b7.2 ⟨i',some j,hf, .inr (by rw [e])⟩)
        obtain ⟨e1,he,hb1,hon⟩:=((dl st.once ho hs).2 j oj hoj hji).2 hlk
        exact hnR (hon▸inv.cr j oj hoj hrj e1 he hb1)
    refine h0.step e (fun b hb=>hB b ⟨i',hb⟩) rfl (fun o' d' h1 h2 h3=>((dl st.once h1 h2).2 i o ho hii).1 h3) fun j hj hr=> ?_
    subst hj
    exact be (fun h=>hF (b7.2 ⟨i',some j,hf, .inr (by rw [h])⟩)) hr
  · obtain ⟨h1,h2,h3,h4,h5,h6⟩:=inv.pr k b hk
    refine ⟨h1,bY h2,fun h=> ?_,by rw [hfr];exact h4,fun o2 hs=>h5 o2 (hst b o2 ⟨k,hk⟩ hs),Nat.lt_of_lt_of_le h6 e.size⟩
    by_cases hik:i=k
    · subst hik;exact hnR h2
    · exact h3 (be hik h)
theorem ow (st:VStat P ops flo) (inv:VInv P G ops flo σ T T0 V R pend g w a.tmps.toList prot) (hG:GOk G g w) {QQ:Exit→Act→World→Prop} {K:Act→World→Prop} {i:Nat} {o:Oper} (ho:ops[i]?=some o)
  (hiR:i∈Region.ready .any ops R) (hiV:i∈Region.ready .any ops V) (hF:i∉bU flo) {ro:Nat} {b:Bool} (hw:bW ops (only ops o σ) o=some b) {X:List TV→VT→Prop}
  (h:b=true→VPi P G ro o (only ops o σ) T fun s T' =>X (bu σ o.dst (py o s)) T') (hY:b=false→X (bu σ o.dst (.val undef)) T) {pend' :List Nat} (T0' :VT→VT) (ht0:∀σ' T' w' g',X σ' T' →Fix ro g T w T' w' →Evo g w g' w' →T'.objs.take (T0' T').objs.length=(T0' T').objs)
  (hpend:∀σ' T' k ok y,X σ' T' →k∈pend→ops[k]?=some ok→¬On R k→bW ops (only ops ok σ) ok=some true→bq P ok.op (aT G (only ops ok σ))=none→bf P T0 ok.op (aT G (only ops ok σ))=some y→k∈pend' ∧bf P (T0' T') ok.op (aT G (only ops ok σ))=some y)
  (next:∀σ' T' g' w' (a' :Act),X σ' T' →VInv P G ops flo σ' T' (T0' T') (V.setIfInBounds i true) (R.setIfInBounds i true) pend' g' w' a'.tmps.toList prot→Evo g w g' w' →Fix ro g T w T' w' →a'.defers=a.defers→K a' w'):wpOpIn (cK r) 0 P ops QQ i K a w:=by
 obtain ⟨_,o',ho',hdepR⟩:=mem_ready.1 hiR
 rw [ho] at ho';injection ho' with ho';subst ho'
 obtain ⟨_,o',ho',hdepV⟩:=mem_ready.1 hiV
 rw [ho] at ho';injection ho' with ho';subst ho'
 have hl:∀s,inList (o.looksAt ops) s=true→∀(k:Nat) ok,ops[k]?=some ok→ok.dst=some s→On V k∧On R k:=fun s hs k ok hk hd=>
  ⟨(j9 st.once ho hdepV hs hk hd).2,(j9 st.once ho hdepR hs hk hd).2⟩
 have hσ:=inv.rel.only hl
 have hwant:=fE hw hσ
 cases b with
 | false=>
  refine pX ho hwant ?_
  refine next _ T g w _ (hY rfl) ?_ (Evo.refl _ _) (Fix.refl _ _ _ _) (b6 _ _ _)
  exact inv.turned st ho hiR hiV hF (Evo.refl _ _) rfl (fun _ _=>rfl) (fun _ _ _ h=>h) inv.rw (fun d u hd hu=>by
   rw [jQ] at hu
   by_cases hc:o.dst=some d∧d<a.tmps.toList.length
   ·rw [if_pos hc] at hu;injection hu with hu;subst hu;exact .val _
   ·rw [if_neg hc] at hu;exact absurd ⟨hd,(List.getElem?_eq_some_iff.1 hu).1⟩ hc) (ht0 _ _ w g (hY rfl) (Fix.refl _ _ _ _) (Evo.refl _ _)) (fun k ok y=>hpend _ T k ok y (hY rfl))
 | true=>
  unfold wpOpIn
  simp only [ho]
  rw [if_pos hwant]
  refine h rfl r (gP g (PB prot)) w a _ _ inv.rw hG.toP (VRs.gh (g:=g) (g' :=gP g (PB prot)) rfl rfl rfl hσ) fun s T' g1 w1 a' hput hX e1 r1 hs hd' hfix=> ?_
  obtain ⟨v,rfl⟩:=hput
  obtain ⟨g',rfl,hfr,e,hB,hst⟩:=e1.base
  have hfix' :Fix ro g T w T' w1:=⟨hfix.len,hfix.same,hfix.heap⟩
  refine next _ T' g' w1 _ hX ?_ e hfix' hd'
  refine inv.turned st ho hiR hiV hF e hfr hB hst r1 (fun d u hd hu=> ?_) (ht0 _ _ w1 g' hX hfix' e) (fun k ok y=>hpend _ T' k ok y hX)
  unfold py
  rw [hd]
  simp only
  rw [List.getD_eq_getElem?_getD]
  have hlen:s.length=(a.put o.dst v).tmps.toList.length:=hs.1.symm
  have hdl:=(List.getElem?_eq_some_iff.1 hu).1
  rw [←hlen] at hdl
  rw [List.getElem?_eq_getElem hdl]
  exact (hs.2 d _ u (List.getElem?_eq_getElem hdl) hu).ofP
theorem ox:∀{l:List Nat} {V:Array Bool} {k:Nat},On (dL l V) k→k∈l∨On V k
 | [],_,_,h=> .inr h
 | i::l,V,k,h=>by
  rcases ox (l:=l) h with h | h
  ·exact .inl (List.mem_cons_of_mem _ h)
  ·by_cases hik:i=k
   ·exact .inl (by rw [hik];exact List.mem_cons_self)
   ·exact .inr (be hik h)
theorem ja:∀{l:List Nat} {V:Array Bool} {k:Nat},(On V k∨(k∈l∧k<V.size))→On (dL l V) k
  | [],_,_,h=>by
    rcases h with h | h
    · exact h
    · cases h.1
  | i::l,V,k,h=>by
    refine ja (l:=l) ?_
    rcases h with h | ⟨h,hk⟩
    · exact .inl (bY h)
    · rcases List.mem_cons.1 h with h | h
      · subst h;exact .inl (gO hk)
      · exact .inr ⟨h,by simpa using hk⟩
theorem qH (inv:VInv P G ops flo σ T T0 V R pend g w a.tmps.toList prot) {j:Nat} (hj:j∈Region.ready .any ops R) (hV:¬On V j) (hF:j∉bU flo):j∈Region.ready .any ops (dL (bU flo) V):=by
  obtain ⟨hun,o,ho,hdep⟩:=mem_ready.1 hj
  have hsz:∀(l:List Nat) (V:Array Bool),(dL l V).size=V.size:=by
    intro l
    induction l with
    | nil=>intro V;rfl
    | cons i l ih=>intro V;rw [dL,ih];simp
  have hlt:=(Array.getElem?_eq_some_iff.1 ho).1
  refine mem_ready.2 ⟨CH (by rw [hsz,inv.vs];exact hlt) fun h=> ?_,o,ho,fun e he hb=> ?_⟩
  · rcases ox h with h | h
    · exact hF h
    · exact hV h
  · have h1:=hdep e he hb
    by_cases hv:On V e.on
    · exact ja (.inl hv)
    · refine ja (.inr ⟨inv.rv e.on h1 hv, ?_⟩)
      have h2:=inv.rs
      have h3:=inv.vs
      rcases Nat.lt_or_ge e.on R.size with h | h
      · omega
      · simp [Array.getElem?_eq_none h] at h1
theorem qJ {i:Nat}:∀{l:List Nat} {k:Nat},k∈l→k≠i→k∈gC i l
 | a::l,k,h,hn=>by
  simp only [gC]
  cases hb:Nat.beq a i with
  | true=>
   have:=Nat.eq_of_beq_eq_true hb
   simp only [cond_true]
   rcases List.mem_cons.1 h with h | h
   ·exact absurd (h.trans this) hn
   ·exact qJ h hn
  | false=>
   simp only [cond_false]
   rcases List.mem_cons.1 h with h | h
   ·rw [h];exact List.mem_cons_self
   ·exact List.mem_cons_of_mem _ (qJ h hn)
theorem qK {i:Nat}:∀{l:List Nat} {k:Nat},k∈gC i l→k∈l
 | a::l,k,h=>by
  simp only [gC] at h
  cases hb:Nat.beq a i with
  | true=>rw [hb] at h;exact List.mem_cons_of_mem _ (qK h)
  | false=>
   rw [hb] at h
   rcases List.mem_cons.1 h with h | h
   ·rw [h];exact List.mem_cons_self
   ·exact List.mem_cons_of_mem _ (qK h)
theorem uE (inv:VInv P G ops flo σ T T0 V R pend g w a.tmps.toList prot) {j i0:Nat} (hn:¬On R i0) (hj:j∈Region.ready .any ops R) (hV:¬On V j) (hF:j∉bU flo):j∈Region.ready .any ops (dL (gC i0 (bU flo)) V):=by
  obtain ⟨hun,o,ho,hdep⟩:=mem_ready.1 hj
  have hsz:∀(l:List Nat) (V:Array Bool),(dL l V).size=V.size:=by
    intro l
    induction l with
    | nil=>intro V;rfl
    | cons i l ih=>intro V;rw [dL,ih];simp
  have hlt:=(Array.getElem?_eq_some_iff.1 ho).1
  refine mem_ready.2 ⟨CH (by rw [hsz,inv.vs];exact hlt) fun h=> ?_,o,ho,fun e he hb=> ?_⟩
  · rcases ox h with h | h
    · exact hF (qK h)
    · exact hV h
  · have h1:=hdep e he hb
    by_cases hv:On V e.on
    · exact ja (.inl hv)
    · refine ja (.inr ⟨qJ (inv.rv e.on h1 hv) (fun h=>hn (h▸h1)), ?_⟩)
      have h2:=inv.rs
      have h3:=inv.vs
      rcases Nat.lt_or_ge e.on R.size with h | h
      · omega
      · simp [Array.getElem?_eq_none h] at h1
def ka (R:Array Bool):Nat:=R.toList.count false
theorem EO {R:Array Bool} {i:Nat} (hi:i<R.size) (h:¬On R i):ka (R.setIfInBounds i true)+1≤ka R:=by
 unfold ka
 rw [Array.toList_setIfInBounds]
 have hl:i<R.toList.length:=by simpa using hi
 have h0:R.toList[i]=false:=by
  unfold On at h
  simp [hi] at h ⊢;exact h
 have hm:false∈R.toList:=by rw [←h0];exact List.getElem_mem hl
 have hpos:0<R.toList.count false:=List.count_pos_iff.2 hm
 rw [List.count_set hl,h0]
 simp only [beq_self_eq_true,if_true,Nat.add_zero,show ((true:Bool)==false)=false from rfl,Bool.false_eq_true,if_false]
 omega
theorem CI {R:Array Bool} (h:ka R=0):∀i,i<R.size→On R i:=fun i hi=>by
 unfold ka at h
 have h1:false∉R.toList:=List.count_eq_zero.1 h
 unfold On
 simp [hi]
 cases hq:R[i] with
 | true=>rfl
 | false=>
  exfalso
  apply h1
  rw [←hq]
  exact Array.mem_toList_iff.2 (Array.getElem_mem hi)
theorem oy (hf:dV ops=true) {R:Array Bool} (hs:R.size=ops.size) (h:Region.ready .any ops R= []):∀i,i<ops.size→On R i:=mB hf hs h
theorem wB {R:Array Bool} (h:∀i,i<ops.size→On R i):Region.ready .any ops R= []:=by
 apply List.eq_nil_iff_forall_not_mem.2
 intro i hi
 obtain ⟨hun,o,ho,_⟩:=mem_ready.1 hi
 exact ea hun (h i (Array.getElem?_eq_some_iff.1 ho).1)
end
end
section
open Go.RowKit

section
variable {P:Program} {ops:Array Oper} {flo:List (Nat × Option Nat)} {F:List Nat}
theorem uF {n:Nat}:∀{l:List Nat},rR n l=true→∀i∈l,i<n
 | [],_,i,h=>by cases h
 | a::l,h,i,hi=>by
  simp only [rR,Bool.and_eq_true] at h
  rcases List.mem_cons.1 hi with rfl | hi
  ·exact Nat.le_of_ble_eq_true h.1
  ·exact uF h.2 i hi
theorem MaskOk.all {n:Nat}:∀(F:List Nat) (m:Nat) (V:Array Bool),MaskOk n m V→(∀i∈F,i<n)→MaskOk n (Nat.lor m (fX F)) (dL F V)
 | [],m,V,h,_=>by
  have:Nat.lor m (fX [])=m:=Nat.or_zero m
  rw [this];exact h
 | i::l,m,V,h,k=>by
  have h1:=MaskOk.all l _ _ (h.set (k i List.mem_cons_self)) fun j hj=>k j (List.mem_cons_of_mem _ hj)
  have e:Nat.lor m (fX (i::l))=Nat.lor (Nat.lor m (dK i)) (fX l):=(Nat.or_assoc m (dK i) (fX l)).symm
  rw [e];exact h1
theorem ld {i k:Nat}:∀{l:List Nat},k∈gC i l→k∈l
 | [],h=>by cases h
 | a::l,h=>by
  simp only [gC] at h
  cases hb:Nat.beq a i with
  | true=>rw [hb] at h;exact List.mem_cons_of_mem _ (ld h)
  | false=>
   rw [hb] at h
   rcases List.mem_cons.1 h with rfl | h
   ·exact List.mem_cons_self
   ·exact List.mem_cons_of_mem _ (ld h)
theorem wC:∀(L:List Oper) (j:Nat),(fW L)[j]?=(L[j]?).map fun o=>cZ o.after.toList
 | [],j=>by simp [fW]
 | o::L,0=>by simp [fW]
 | o::L,j+1=>by simpa [fW] using wC L j
theorem AW {m:Nat} {V:Array Bool} (h:MaskOk ops.size m V) (j:Nat):px (fW ops.toList) m j=mf ops V j:=by
 unfold px mf
 rw [wC,Array.getElem?_toList]
 cases ops[j]? with
 | none=>rfl
 | some o=>exact yM h o
theorem CJ {V:Array Bool} {j:Nat} (h:mf ops V j=true):j<ops.size:=by
 unfold mf at h
 split at h
 ·rename_i o ho;exact (Array.getElem?_eq_some_iff.1 ho).1
 ·cases h
theorem rX (hf:dV ops=true) {i:Nat} (hi:i<ops.size):∀{l:List Nat},mg ops.size (mR ops.toList 0 []) i l=true→(l.all fun k=>nI ops ops.size i k)=true
 | [],_=>rfl
 | k::l,h=>by
  simp only [mg,Bool.and_eq_true] at h
  rw [List.all_cons,G7 hf hi h.1,rX hf hi h.2];rfl
theorem dM (hf:dV ops=true) (hF:∀i∈F,i<ops.size):∀(l:List (Nat × FK)) (m:Nat) (V:Array Bool) (pend:List Nat),MaskOk ops.size m V→
  cF P ops (fW ops.toList) (mR ops.toList 0 []) flo F l m pend=true→bM P ops flo F l V pend=true
 | [],m,V,pend,hm,h=>by
  simp only [cF] at h
  simp only [bM,dr hm];exact h
 | (i, .own)::l,m,V,pend,hm,h=>by
  simp only [cF,Bool.and_eq_true] at h
  obtain ⟨⟨⟨h1,h2⟩,h3⟩,h4⟩:=h
  rw [←dr hm] at h1
  have hlt:i<ops.size:=by
   obtain ⟨_,o,ho,_⟩:=mem_ready.1 (bI.1 h1)
   exact (Array.getElem?_eq_some_iff.1 ho).1
  simp only [bM,Bool.and_eq_true]
  exact ⟨⟨⟨h1,h2⟩,h3⟩,dM hf hF l _ _ _ (hm.set hlt) h4⟩
 | (i, .turn pe)::l,m,V,pend,hm,h=>by
  simp only [cF,Bool.and_eq_true] at h
  obtain ⟨⟨⟨⟨h0,h1⟩,h2⟩,h3⟩,h4⟩:=h
  rw [←dr hm] at h1
  rw [←dr (hm.all F _ _ hF)] at h3
  have hlt:i<ops.size:=by
   obtain ⟨_,o,ho,_⟩:=mem_ready.1 (bI.1 h1)
   exact (Array.getElem?_eq_some_iff.1 ho).1
  simp only [bM,Bool.and_eq_true]
  exact ⟨⟨⟨⟨h0,h1⟩,h2⟩,h3⟩,dM hf hF l _ _ _ (hm.set hlt) h4⟩
 | (i, .put pe)::l,m,V,pend,hm,h=>by
  simp only [cF,Bool.and_eq_true] at h
  obtain ⟨⟨⟨⟨h0,h1⟩,h2⟩,h3⟩,h4⟩:=h
  rw [←dr hm] at h1
  rw [←dr (hm.all F _ _ hF)] at h3
  have hlt:i<ops.size:=by
   obtain ⟨_,o,ho,_⟩:=mem_ready.1 (bI.1 h1)
   exact (Array.getElem?_eq_some_iff.1 ho).1
  simp only [bM,Bool.and_eq_true]
  exact ⟨⟨⟨⟨h0,h1⟩,h2⟩,h3⟩,dM hf hF l _ _ _ (hm.set hlt) h4⟩
 | (i, .bar)::l,m,V,pend,hm,h=>by
  simp only [cF,Bool.and_eq_true] at h
  obtain ⟨⟨⟨⟨h1,h2⟩,h3⟩,h5⟩,h4⟩:=h
  rw [←dr hm] at h1
  rw [←dr (hm.all F _ _ hF)] at h3
  have hlt:i<ops.size:=by
   obtain ⟨_,o,ho,_⟩:=mem_ready.1 (bI.1 h1)
   exact (Array.getElem?_eq_some_iff.1 ho).1
  simp only [bM,Bool.and_eq_true]
  exact ⟨⟨⟨⟨h1,h2⟩,h3⟩,rX hf hlt h5⟩,dM hf hF l _ _ _ (hm.set hlt) h4⟩
 | (i, .late)::l,m,V,pend,hm,h=>by
  simp only [cF,Bool.and_eq_true] at h
  obtain ⟨⟨⟨h0,h1⟩,h3⟩,h4⟩:=h
  rw [←dr hm] at h1
  rw [←dr (hm.all (gC i F) _ _ fun k hk=>hF k (ld hk))] at h3
  have hlt:i<ops.size:=by
   obtain ⟨_,o,ho,_⟩:=mem_ready.1 (bI.1 h1)
   exact (Array.getElem?_eq_some_iff.1 ho).1
  simp only [bM,Bool.and_eq_true]
  exact ⟨⟨⟨by simpa only [Bool.and_eq_true] using h0,h1⟩,h3⟩,dM hf hF l _ _ _ (hm.set hlt) h4⟩
 | (i, .box j)::l,m,V,pend,hm,h=>by
  simp only [cF,Bool.and_eq_true] at h
  obtain ⟨⟨⟨⟨h0,h1⟩,h2⟩,h3⟩,h4⟩:=h
  rw [←dr hm] at h1
  rw [←dr (hm.all (gC j F) _ _ fun k hk=>hF k (ld hk))] at h3
  have hlt:i<ops.size:=by
   obtain ⟨_,o,ho,_⟩:=mem_ready.1 (bI.1 h1)
   exact (Array.getElem?_eq_some_iff.1 ho).1
  rw [AW (hm.set hlt)] at h2
  have hltj:=CJ h2
  simp only [bM,Bool.and_eq_true]
  exact ⟨⟨⟨⟨by simpa only [Bool.and_eq_true] using h0,h1⟩,h2⟩,h3⟩,dM hf hF l _ _ _ ((hm.set hlt).set hltj) h4⟩
theorem hJ:∀(L:List Oper) (k d i:Nat),(d,i)∈ej k L ↔ ∃j o,L[j]?=some o∧i=k+j∧o.dst=some d
  | [],k,d,i=>by simp [ej]
  | o::L,k,d,i=>by
    have ih:=hJ L (k+1) d i
    have step:(∃j o',L[j]?=some o' ∧i=k+1+j∧o'.dst=some d) ↔ ∃j o',(o::L)[j+1]?=some o' ∧i=k+(j+1)∧o'.dst=some d:=by
      constructor
      · rintro ⟨j,o',h1,h2,h3⟩;exact ⟨j,o',by simpa using h1,by omega,h3⟩
      · rintro ⟨j,o',h1,h2,h3⟩;exact ⟨j,o',by simpa using h1,by omega,h3⟩
    simp only [ej]
    split
    · rename_i d' hd'
      rw [List.mem_cons,ih,step]
      constructor
      · rintro (h | ⟨j,o',h⟩)
        · injection h with h1 h2
          exact ⟨0,o,rfl,by omega,by rw [hd',h1]⟩
        · exact ⟨j+1,o',h⟩
      · rintro ⟨j,o',h1,h2,h3⟩
        cases j with
        | zero=>
          simp at h1;subst h1
          rw [hd'] at h3;injection h3 with h3
          left;rw [h3,h2];rfl
        | succ j=>exact .inr ⟨j,o',h1,h2,h3⟩
    · rename_i hd'
      rw [ih,step]
      constructor
      · rintro ⟨j,o',h⟩;exact ⟨j+1,o',h⟩
      · rintro ⟨j,o',h1,h2,h3⟩
        cases j with
        | zero=>
          simp at h1;subst h1
          rw [hd'] at h3;cases h3
        | succ j=>exact ⟨j,o',h1,h2,h3⟩
theorem pZ:∀{W:List (Nat × Nat)} {m:Nat},mS W m=true→(∀p∈W,m.testBit p.1=false)∧W.Pairwise fun p q=>p.1≠q.1
  | [],_,_=>⟨by simp,List.Pairwise.nil⟩
  | p::l,m,h=>by
    simp only [mS] at h
    cases hb:eF m p.1 with
    | true=>rw [hb] at h;cases h
    | false=>
      rw [hb,cond_false] at h
      obtain ⟨h1,h2⟩:=pZ h
      rw [kZ] at hb
      refine ⟨fun q hq=> ?_,List.pairwise_cons.2 ⟨fun q hq he=> ?_,h2⟩⟩
      · rcases List.mem_cons.1 hq with rfl | hq
        · exact hb
        · have:=h1 q hq
          rw [iw,Bool.or_eq_false_iff] at this
          exact this.1
      · have:=h1 q hq
        rw [iw,Bool.or_eq_false_iff,k9,decide_eq_false_iff_not] at this
        exact this.2 he
theorem lf:∀{W:List (Nat × Nat)},(W.Pairwise fun p q=>p.1≠q.1)→∀{d i:Nat},(d,i)∈W→ol W d=some i
 | [],_,_,_,h=>by cases h
 | p::l,hp,d,i,h=>by
  simp only [ol]
  rcases List.mem_cons.1 h with rfl | h
  ·simp [Nat.beq_refl]
  ·have hne:=(List.pairwise_cons.1 hp).1 _ h
   cases hb:Nat.beq p.1 d with
   | true=>exact absurd (Nat.eq_of_beq_eq_true hb) hne
   | false=>rw [cond_false];exact lf (List.pairwise_cons.1 hp).2 h
theorem rY {W:List (Nat × Nat)} {d:Nat}:∀{l:List Nat},mh W d l=true→∀s∈l,∀i,ol W s=some i→eF d i=true
 | [],_,s,h=>by cases h
 | a::l,h,s,hs=>by
  simp only [mh,Bool.and_eq_true] at h
  intro i hi
  rcases List.mem_cons.1 hs with rfl | hs
  ·have h1:=h.1
   rw [hi] at h1;exact h1
  ·exact rY h.2 s hs i hi
theorem uG {W:List (Nat × Nat)}:∀{L:List Oper},rQ ops W L=true→∀o∈L,mh W (cZ o.after.toList) (o.looksAt ops)=true
 | [],_,o,h=>by cases h
 | a::l,h,o,ho=>by
  simp only [rQ,Bool.and_eq_true] at h
  rcases List.mem_cons.1 ho with rfl | ho
  ·exact h.1
  ·exact uG h.2 o ho
theorem EP (hf:dV ops=true) (h:AI ops=true):og ops=true:=by
 unfold AI at h
 rw [Bool.and_eq_true] at h
 obtain ⟨h1,h2⟩:=h
 obtain ⟨_,hp⟩:=pZ h1
 have look:∀(i j d:Nat) (o oj:Oper),ops[i]?=some o→o.dst=some d→ops[j]?=some oj→inList (oj.looksAt ops) d=true→∃e∈oj.after.toList,Region.binds .any e=true∧e.on=i:=fun i j d o oj ho hd hoj hl=>by
  have hm:(d,i)∈ej 0 ops.toList:=(hJ _ _ _ _).2 ⟨i,o,by rw [Array.getElem?_toList];exact ho,by omega,hd⟩
  have hfw:=lf hp hm
  have hmem:oj∈ops.toList:=by
   obtain ⟨hlt,he⟩:=Array.getElem?_eq_some_iff.1 hoj
   rw [←he];exact Array.mem_toList_iff.2 (Array.getElem_mem hlt)
  have:=rY (uG h2 oj hmem) d (bI.1 hl) i hfw
  rw [kZ] at this
  obtain ⟨e,he,hb,hon⟩:=(ei _ _).1 this
  exact ⟨e,he,hb,hon⟩
 unfold og
 refine List.all_eq_true.2 fun i hi=> ?_
 cases ho:ops[i]? with
 | none=>rfl
 | some o=>
  simp only
  cases hd:o.dst with
  | none=>rfl
  | some d=>
   simp only [Bool.and_eq_true,Bool.not_eq_true']
   refine ⟨?_,List.all_eq_true.2 fun j hj=> ?_⟩
   ·cases hl:inList (o.looksAt ops) d with
    | false=>rfl
    | true=>
     obtain ⟨e,he,hb,hon⟩:=look i i d o o ho hd ho hl
     have:=(dC hf ho).1 e (Array.mem_toList_iff.1 he) hb
     omega
   ·by_cases hji:j=i
    ·subst hji;simp [Nat.beq_refl]
    ·cases hoj:ops[j]? with
     | none=>simp
     | some oj=>
      simp only [Bool.or_eq_true,Bool.and_eq_true]
      right
      refine ⟨?_, ?_⟩
      ·cases hdj:oj.dst with
       | none=>rfl
       | some d' =>
        simp only [Bool.not_eq_true']
        cases hb:Nat.beq d' d with
        | false=>rfl
        | true=>
         have:=Nat.eq_of_beq_eq_true hb
         subst this
         have m1:(d',i)∈ej 0 ops.toList:=(hJ _ _ _ _).2 ⟨i,o,by rw [Array.getElem?_toList];exact ho,by omega,hd⟩
         have m2:(d',j)∈ej 0 ops.toList:=(hJ _ _ _ _).2 ⟨j,oj,by rw [Array.getElem?_toList];exact hoj,by omega,hdj⟩
         have e1:=lf hp m1
         rw [lf hp m2] at e1
         injection e1 with e1
         exact absurd e1 hji
      ·cases hl:inList (oj.looksAt ops) d with
       | false=>exact .inl rfl
       | true=>
        right
        obtain ⟨e,he,hb,hon⟩:=look i j d o oj ho hd hoj hl
        exact List.any_eq_true.2 ⟨e,he,by rw [hb,hon,Nat.beq_refl];rfl⟩
end
end
section
open Go.RowKit

section
variable {P:Program} {G:aK} {F:fq} {ops:Array Oper} {r:Option Nat} {flo:List (Nat × Option Nat)} {σ:List TV} {T T0:VT} {V R:Array Bool} {pend:List Nat} {g:Gh} {w:World} {a:Act} {prot:Nat→Option Nat}
theorem AX (st:VStat P ops flo) (inv:VInv P G ops flo σ T T0 V R pend g w a.tmps.toList prot) (hG:GOk G g w) (hbx:cN P G ops flo V σ flo=true) {QQ:Exit→Act→World→Prop} {K:Act→World→Prop} {j:Nat} (hj:j∈Region.ready .any ops R) (hVF:On V j∨(¬On V j∧j∈bU flo))
  (next:∀g' w' (a' :Act) prot',VInv P G ops flo σ T T0 V (R.setIfInBounds j true) pend g' w' a'.tmps.toList prot' →Evo g w g' w' →(∀n,Fix n g T w T w')→a'.defers=a.defers→K a' w'):wpOpIn (cK r) 0 P ops QQ j K a w:=by
 rcases hVF with hV | ⟨hV,hF⟩
 ·exact uD st inv hG hj hV fun g' w' a' =>next g' w' a' prot
 ·obtain ⟨i,jo,h1,h2⟩:=b7.1 hF
  rcases h2 with rfl | rfl
  ·exact AU st inv h1 hj hV next
  ·exact AV st inv hG hbx h1 hj hV fun g' w' a' =>next g' w' a' prot
theorem AY {QQ:Exit→Act→World→Prop} (h:Region.ready .any ops R= []) (hq:QQ .normal a w):∀fuel,wpAnyIn (cK r) 0 P .any ops QQ fuel R a w
 | 0=>⟨h,hq⟩
 | _+1=>⟨fun _=>hq,fun j hj=>by rw [h] at hj;cases hj⟩
theorem rZ {QQ:Exit→Act→World→Prop} (hf:dV ops=true) (hs:R.size=ops.size) {i:Nat} (hi:i<ops.size) (hn:¬On R i) {fuel:Nat} (hfu:ka R≤fuel)
  (step:∀n,n<fuel→∀j∈Region.ready .any ops R,ka (R.setIfInBounds j true)≤n→wpOpIn (cK r) 0 P ops QQ j (wpAnyIn (cK r) 0 P .any ops QQ n (R.setIfInBounds j true)) a w):wpAnyIn (cK r) 0 P .any ops QQ fuel R a w:=by
 cases fuel with
 | zero=>exact absurd (CI (by omega) i (by rw [hs];exact hi)) hn
 | succ n=>
  refine ⟨fun h=>absurd (oy hf hs h i hi) hn,fun j hj=>step n (Nat.lt_succ_self n) j hj ?_⟩
  obtain ⟨hun,o,ho,_⟩:=mem_ready.1 hj
  have:=EO (R:=R) (i:=j) (by rw [hs];exact (Array.getElem?_eq_some_iff.1 ho).1) (ea hun)
  omega
theorem hP {l:List Nat} {q:Nat→Bool} (h:l.all q=true) {k:Nat} (hk:k∈l):q k=true:=List.all_eq_true.1 h k hk
theorem wD:∀{l m:List Nat},wt l m=true→l=m
 | [], [],_=>rfl
 | a::l,b::m,h=>by
  simp only [wt,Bool.and_eq_true] at h
  rw [Nat.eq_of_beq_eq_true h.1,wD h.2]
 | [],_::_,h=>by cases h
 | _::_, [],h=>by cases h
theorem r9 {b:Bool} {X:Prop} {n:Nat} {op:Op} {l:List TV} (h:cond b X (ay n op l)):b=true∧X:=by
 cases b with
 | false=>exact h.elim
 | true=>exact ⟨rfl,h⟩
theorem wE {id off n:Nat} {l:List Nat} (h:lb P G ops id off n σ l=true) {k:Nat} {o:Oper} (hk:k∈l) (ho:ops[k]?=some o) (hw:bW ops (only ops o σ) o=some true) (hp:bq P o.op (aT G (only ops o σ))=none):apartRead P id off n o.op (aT G (only ops o σ))=true:=by
 induction l with
 | nil=>cases hk
 | cons a l ih=>
  unfold lb at h
  rw [Bool.and_eq_true] at h
  rcases List.mem_cons.1 hk with e | hk
  ·subst e
   have h1:=h.1
   rw [ho] at h1
   simp only [hw,hp,Option.isSome_none,Bool.false_or] at h1
   exact h1
  ·exact ih h.2 hk
theorem yp {T0 T1:VT} {l:List Nat} (h:mU P G ops T0 T1 σ l=true) {k:Nat} {o:Oper} {y:TV} (hk:k∈l) (ho:ops[k]?=some o) (hw:bW ops (only ops o σ) o=some true) (hp:bq P o.op (aT G (only ops o σ))=none) (hr:bf P T0 o.op (aT G (only ops o σ))=some y):bf P T1 o.op (aT G (only ops o σ))=some y:=by
 induction l with
 | nil=>cases hk
 | cons a l ih=>
  unfold mU at h
  rw [Bool.and_eq_true] at h
  rcases List.mem_cons.1 hk with e | hk
  ·subst e
   have h1:=h.1
   rw [ho] at h1
   simp only [hw,hp,Option.isSome_none,Bool.false_or,hr] at h1
   split at h1
   ·rename_i x y' hx hy
    injection hx with hx;subst hx
    rw [hy,tA _ _ h1]
   ·rename_i hx;cases hx
   ·cases h1
  ·exact ih h.2 hk
theorem yq {T0 T1:VT} {l:List Nat} (h:mV P G ops T0 T1 σ l) {k:Nat} {o:Oper} {y:TV} (hk:k∈l) (ho:ops[k]?=some o) (hw:bW ops (only ops o σ) o=some true) (hp:bq P o.op (aT G (only ops o σ))=none) (hr:bf P T0 o.op (aT G (only ops o σ))=some y):bf P T1 o.op (aT G (only ops o σ))=some y:=by
 induction l with
 | nil=>cases hk
 | cons a l ih=>
  unfold mV at h
  rcases List.mem_cons.1 hk with e | hk
  ·subst e
   have h1:=h.1
   rw [ho] at h1
   simp only [hw,hp,Option.isSome_none,cond_false] at h1
   rw [←h1];exact hr
  ·exact ih h.2 hk
theorem M2 {b c:Bool} {A X:Prop} {n:Nat} {op:Op} {l:List TV} (h:cond b (A∧X) (cond c X (ay n op l))):(A∨c=true)∧X:=by
 cases b with
 | true=>exact ⟨.inl h.1,h.2⟩
 | false=>
  cases c with
  | true=>exact ⟨.inr rfl,h⟩
  | false=>exact h.elim
theorem VPi.mono {ro:Nat} {o:Oper} {s:List TV} {T:VT} {K K' :List TV→VT→Prop} (h:VPi P G ro o s T K) (k:∀s T,K s T→K' s T):VPi P G ro o s T K' :=
 fun r g w a next Q rw0 hG hσ hn=>h r g w a next Q rw0 hG hσ fun σ' T' g' w' a' hp hk=>hn σ' T' g' w' a' hp (k _ _ hk)
theorem EQ {g:Gh} {w:World} (r:RW g T w) {ro:Nat} {t:TypeId} {id off:Nat} {x:TV} {ua u:Value} {T' :VT} (h:rU P ro T t (.ptr id off) x=some T') (ha:VR g w (.ptr id off) ua) (hx:VR g w x u):
  ∃g' w',(Instr.storeAt t ua u).run P w= .ok () w' ∧VR g' w' (.val undef) undef∧Evo g w g' w' ∧RW g' T' w' ∧Fix ro g T w T' w' :=by
 unfold rU at h
 split at h
 ·rename_i y T1 h1
  injection h with h;subst h
  obtain ⟨g',w',k1,_,k3,k4,k5⟩:=rF (P:=P) r h1 ha hx
  exact ⟨g',w',k1, .val _,k3,k4,k5⟩
 ·cases hr:Nat.ble ro id with
  | false=>simp only [hr] at h;cases h
  | true=>
   simp only [hr,cond_true,Option.map_eq_some_iff] at h
   obtain ⟨⟨y,T1⟩,h1,h2⟩:=h
   simp only at h2;subst h2
   obtain ⟨g',w',k1,_,k3,k4,k5⟩:=rE (P:=P) (ro:=ro) r h1 ha hx (Nat.le_of_ble_eq_true hr)
   exact ⟨g',w',k1, .val _,k3,k4,k5⟩
theorem uH {call:fY} {rnd:g9} (hc:fD P G call) (hrr:gN P G rnd) (st:VStat P ops flo) {ro:Nat} {K:List TV→VT→Prop} {gs:Gh} {Ts:VT} {ws:World} {ds:List Deferred} {QQ:Act→World→Prop}
  (hq:∀σ' T' g' w' (a' :Act),K σ' T' →Evo gs ws g' w' →RW g' T' w' →VRs g' w' σ' a'.tmps.toList→a'.defers=ds→Fix ro gs Ts ws T' w' →QQ a' w'):
  ∀(fuel:Nat) (l:List (Nat × FK)) (V:Array Bool) (T0:VT) (pend:List Nat) (σ:List TV) (T:VT) (R:Array Bool) (g:Gh) (w:World) (a:Act) (prot:Nat→Option Nat),
   bM P ops flo (bU flo) l V pend=true→cm P G F call rnd ro ops flo V T0 l σ T K→VInv P G ops flo σ T T0 V R pend g w a.tmps.toList prot→GOk G g w→a.defers=ds→Evo gs ws g w→Fix ro gs Ts ws T w→ro≤T0.objs.length→ka R≤fuel→
   wpAnyIn (cK r) 0 P .any ops (eb QQ) fuel R a w:=by
 intro fuel
 induction fuel using Nat.strongRecOn with
 | _ fuel ihf=>
 intro l
 induction l with
 | nil=>
  intro V T0 pend σ T R g w a prot hp h inv hG hds hes hfx hro hfu
  have hallV:∀i,i<ops.size→On V i:=oy st.flow inv.vs (by simpa [bM] using hp)
  by_cases hall:∀i,i<ops.size→On R i
  ·refine AY (wB hall) (hq σ T g w a h hes inv.base ⟨inv.rel.1,fun s x u hs hu=>inv.rel.2 s x u hs hu fun k o hk _=> ?_⟩ hds hfx) _
   have hlt:=(Array.getElem?_eq_some_iff.1 hk).1
   exact ⟨hallV k hlt,hall k hlt⟩
  ·obtain ⟨i,hi⟩:=Classical.not_forall.1 hall
   obtain ⟨hi,hn⟩:=Classical.not_imp.1 hi
   refine rZ st.flow inv.rs hi hn hfu fun n hlt j hj hoff=> ?_
   obtain ⟨_,o,ho,_⟩:=mem_ready.1 hj
   exact uD st inv hG hj (hallV j (Array.getElem?_eq_some_iff.1 ho).1) fun g' w' a' inv' e fx hd=>ihf n hlt [] V T0 pend σ T _ g' w' a' prot hp h inv' (hG.mono e) (hd.trans hds) (hes.trans e) (hfx.trans hes (fx ro)) hro hoff
 | cons p l ih=>
  intro V T0 pend σ T R g w a prot hp h inv hG hds hes hfx hro hfu
  obtain ⟨i,k⟩:=p
  --while it waits
  have wait:∀(hbx:cN P G ops flo V σ flo=true) {i0:Nat} (hi0:i0<ops.size) (hn0:¬On R i0)
    (hready:∀j∈Region.ready .any ops R,¬On V j→j∉bU flo→∀n,n<fuel→ka (R.setIfInBounds j true)≤n→wpOpIn (cK r) 0 P ops (eb QQ) j (wpAnyIn (cK r) 0 P .any ops (eb QQ) n (R.setIfInBounds j true)) a w),
    wpAnyIn (cK r) 0 P .any ops (eb QQ) fuel R a w:=fun hbx i0 hi0 hn0 hready=>by
   refine rZ st.flow inv.rs hi0 hn0 hfu fun n hlt j hj hoff=> ?_
   by_cases hVF:On V j∨(¬On V j∧j∈bU flo)
   ·exact AX st inv hG hbx hj hVF fun g' w' a' prot' inv' e fx hd=>ihf n hlt ((i,k)::l) V T0 pend σ T _ g' w' a' prot' hp h inv' (hG.mono e) (hd.trans hds) (hes.trans e) (hfx.trans hes (fx ro)) hro hoff
   ·have h1:¬On V j:=fun h=>hVF (.inl h)
    exact hready j hj h1 (fun h=>hVF (.inr ⟨h1,h⟩)) n hlt hoff
  cases k with
  | own=>
   simp only [bM,Bool.and_eq_true,Bool.not_eq_true'] at hp
   obtain ⟨⟨⟨hri,hnF⟩,hnd⟩,hp⟩:=hp
   have hri:=bI.1 hri
   have hF:=dY hnF
   obtain ⟨_,o,ho,_⟩:=mem_ready.1 hri
   simp only [ho] at hnd hp
   simp only [cm,ho] at h
   replace h:=dZ h
   have hsub:∀k∈pend,k∈(bif isRead P o.op then i::pend else pend):=fun k hk=>by
    cases isRead P o.op
    ·exact hk
    ·exact List.mem_cons_of_mem _ hk
   have go:∀{y},((bW ops (only ops o σ) o=some false∧y= .val undef)∨(bW ops (only ops o σ) o=some true∧(i9 P G ⟨[], []⟩ o (only ops o σ) y∨(i∈(bif isRead P o.op then i::pend else pend)∧bq P o.op (aT G (only ops o σ))=none∧bf P T0 o.op (aT G (only ops o σ))=some y))))→
     cm P G F call rnd ro ops flo (V.setIfInBounds i true) T0 l (bu σ o.dst y) T K→wpAnyIn (cK r) 0 P .any ops (eb QQ) fuel R a w:=fun how h=>
    ih _ T0 _ _ T R g w a prot hp h (EN st inv ho hri hF hnd hsub how) hG hds hes hfx hro hfu
   split at h
   ·rename_i b hb
    cases b with
    | true=>
     simp only [cond_true] at h
     split at h
     ·rename_i y hy
      obtain ⟨hpu,h⟩:=h
      rcases CC hpu with h1 | ⟨h1,h2,h3⟩
      ·exact go (.inr ⟨hb, .inl h1⟩) h
      ·exact go (.inr ⟨hb, .inr ⟨by rw [h1];exact List.mem_cons_self,h2,h3⟩⟩) h
     ·exact h.elim
     ·split at h
      ·rename_i y hy
       rcases CD hy with h1 | ⟨h1,h2,h3⟩
       ·exact go (.inr ⟨hb, .inl h1⟩) h
       ·exact go (.inr ⟨hb, .inr ⟨by rw [h1];exact List.mem_cons_self,h2,h3⟩⟩) h
      ·exact h.elim
    | false=>
     simp only [cond_false] at h
     exact go (.inl ⟨hb,rfl⟩) h
   ·exact h.elim
  | turn pe=>
   simp only [bM,Bool.and_eq_true,Bool.not_eq_true'] at hp
   obtain ⟨⟨⟨⟨hpe,hri⟩,hnF⟩,hrd⟩,hp⟩:=hp
   have hpe:=wD hpe
   subst hpe
   have hri:=bI.1 hri
   have hF:=dY hnF
   obtain ⟨hun,o,ho,_⟩:=mem_ready.1 hri
   simp only [cm,ho] at h
   replace h:=dZ h
   split at h
   ·rename_i b hb
    cases hbx:cN P G ops flo V σ flo with
    | false=>rw [hbx] at h;exact h.elim
    | true=>
     rw [hbx] at h
     simp only [cond_true] at h
     have hnV:=ea hun
     have hle:T0.objs.length≤T.objs.length:=by
      have:=congrArg List.length inv.t0
      rw [List.length_take] at this;omega
     refine wait hbx (Array.getElem?_eq_some_iff.1 ho).1 (fun hR=>hF (inv.rv i hR hnV)) fun j hj hVj hFj n hlt hoff=> ?_
     have h1:=hP hrd (qH inv hj hVj hFj)
     simp only [Bool.or_eq_true] at h1
     rcases h1 with h1 | h1
     ·have h1:=Nat.eq_of_beq_eq_true h1
      subst h1
      have ht0T:T.takeO T0.objs.length=⟨T0.objs,T.tails⟩:=by unfold VT.takeO;rw [inv.t0]
      refine ow st inv hG ho hj hri hF hb (ro:=ro) (X:=fun σ' T' =>(∀k ok y,k∈pe→ops[k]?=some ok→bW ops (only ops ok σ) ok=some true→bq P ok.op (aT G (only ops ok σ))=none→bf P T0 ok.op (aT G (only ops ok σ))=some y→bf P (T'.takeO T0.objs.length) ok.op (aT G (only ops ok σ))=some y)∧cm P G F call rnd ro ops flo (V.setIfInBounds j true) (T'.takeO T0.objs.length) l σ' T' K)
       (fun hbt=> ?_) (fun hbf=> ?_) (pend' :=pe) (fun T' =>T'.takeO T0.objs.length) (fun σ' T' w' g' hX fx e=> ?_) (fun σ' T' k ok y hX h1 h2 _ h3 h4 h5=>⟨h1,hX.1 k ok y h1 h2 h3 h4 h5⟩) fun σ' T' g' w' a' hX inv' e fx hd=>ihf n hlt l _ _ pe σ' T' _ g' w' a' prot hp hX.2 inv' (hG.mono e) (hd.trans hds) (hes.trans e) (hfx.trans hes fx) (by
        have:=fx.len
        simp only [VT.takeO,List.length_take];omega) hoff
      ·rw [hbt] at h
       simp only [cond_true] at h
       refine VPi.mono (jP hc hrr h) fun s T' hk=> ?_
       obtain ⟨hsame,hk⟩:=M2 hk
       refine ⟨fun k ok y hk hok hwk hpu hrd=> ?_,hk⟩
       rcases hsame with hsame | hsame
       ·exact yq hsame hk hok hwk hpu hrd
       ·exact yp hsame hk hok hwk hpu hrd
      ·rw [hbf] at h
       simp only [cond_false] at h
       exact ⟨fun k ok y _ _ _ _ hrd=>iU (T0:=T0) (T:=T.takeO T0.objs.length) (by rw [ht0T];simp) hrd,h⟩
      ·simp only [VT.takeO,List.length_take]
       rw [List.take_eq_take_iff]
       omega
     ·exact absurd (bI.1 h1) hFj
   ·exact h.elim
  | bar=>
   simp only [bM,Bool.and_eq_true,Bool.not_eq_true'] at hp
   obtain ⟨⟨⟨⟨hri,hnF⟩,hrd⟩,hanc⟩,hp⟩:=hp
   have hri:=bI.1 hri
   have hF:=dY hnF
   obtain ⟨hun,o,ho,_⟩:=mem_ready.1 hri
   simp only [cm,ho] at h
   replace h:=dZ h
   split at h
   ·rename_i b hb
    cases hbx:cN P G ops flo V σ flo with
    | false=>rw [hbx] at h;exact h.elim
    | true=>
     rw [hbx] at h
     simp only [cond_true] at h
     have hnV:=ea hun
     have hle:T0.objs.length≤T.objs.length:=by
      have:=congrArg List.length inv.t0
      rw [List.length_take] at this;omega
     refine wait hbx (Array.getElem?_eq_some_iff.1 ho).1 (fun hR=>hF (inv.rv i hR hnV)) fun j hj hVj hFj n hlt hoff=> ?_
     have h1:=hP hrd (qH inv hj hVj hFj)
     simp only [Bool.or_eq_true] at h1
     rcases h1 with h1 | h1
     ·have h1:=Nat.eq_of_beq_eq_true h1
      subst h1
      obtain ⟨_,oj,hoj,hdep⟩:=mem_ready.1 hj
      have hpe:∀k∈pend,On R k:=fun k hk=>mQ inv.cr ops.size j k (List.all_eq_true.1 hanc k hk) fun o' ho' e he hbb=>by
       rw [hoj] at ho';injection ho' with ho';subst ho';exact hdep e he hbb
      refine ow st inv hG ho hj hri hF hb (X:=fun σ' T' =>cm P G F call rnd ro ops flo (V.setIfInBounds j true) T' l σ' T' K) (fun hbt=>jP hc hrr (by rw [hbt] at h;exact h)) (fun hbf=>by rw [hbf] at h;exact h) (pend' := []) (fun T' =>T') (fun σ' T' w' g' _ fx e=>by simp) (fun _ _ k ok y _ h1 _ h2 _ _ _=>absurd (hpe k h1) h2) fun σ' T' g' w' a' hX inv' e fx hd=>ihf n hlt l _ T' [] σ' T' _ g' w' a' prot hp hX inv' (hG.mono e) (hd.trans hds) (hes.trans e) (hfx.trans hes fx) (Nat.le_trans (Nat.le_trans hro hle) fx.len) hoff
     ·exact absurd (bI.1 h1) hFj
   ·exact h.elim
  | put pe=>
   simp only [bM,Bool.and_eq_true,Bool.not_eq_true'] at hp
   obtain ⟨⟨⟨⟨hpe,hri⟩,hnF⟩,hrd⟩,hp⟩:=hp
   have hpe:=wD hpe
   subst hpe
   have hri:=bI.1 hri
   have hF:=dY hnF
   obtain ⟨hun,o,ho,_⟩:=mem_ready.1 hri
   simp only [cm,ho] at h
   replace h:=dZ h
   split at h
   ·rename_i b hb
    cases hbx:cN P G ops flo V σ flo with
    | false=>rw [hbx] at h;exact h.elim
    | true=>
     rw [hbx] at h
     simp only [cond_true] at h
     have hnV:=ea hun
     have hle:T0.objs.length≤T.objs.length:=by
      have:=congrArg List.length inv.t0
      rw [List.length_take] at this;omega
     refine wait hbx (Array.getElem?_eq_some_iff.1 ho).1 (fun hR=>hF (inv.rv i hR hnV)) fun j hj hVj hFj n hlt hoff=> ?_
     have h1:=hP hrd (qH inv hj hVj hFj)
     simp only [Bool.or_eq_true] at h1
     rcases h1 with h1 | h1
     ·have h1:=Nat.eq_of_beq_eq_true h1
      subst h1
      have ht0T:T.takeO T0.objs.length=⟨T0.objs,T.tails⟩:=by unfold VT.takeO;rw [inv.t0]
      refine ow st inv hG ho hj hri hF hb (ro:=ro) (X:=fun σ' T' =>(T'.objs.length=T.objs.length∧∀k ok y,k∈pe→ops[k]?=some ok→bW ops (only ops ok σ) ok=some true→bq P ok.op (aT G (only ops ok σ))=none→bf P T0 ok.op (aT G (only ops ok σ))=some y→bf P (T'.takeO T0.objs.length) ok.op (aT G (only ops ok σ))=some y)∧cm P G F call rnd ro ops flo (V.setIfInBounds j true) (T'.takeO T0.objs.length) l σ' T' K)
       (fun hbt=> ?_) (fun hbf=> ?_) (pend' :=pe) (fun T' =>T'.takeO T0.objs.length) (fun σ' T' w' g' hX fx e=> ?_) (fun σ' T' k ok y hX h1 h2 _ h3 h4 h5=>⟨h1,hX.1.2 k ok y h1 h2 h3 h4 h5⟩) fun σ' T' g' w' a' hX inv' e fx hd=>ihf n hlt l _ _ pe σ' T' _ g' w' a' prot hp hX.2 inv' (hG.mono e) (hd.trans hds) (hes.trans e) (hfx.trans hes fx) (by
        have:=hX.1.1
        simp only [VT.takeO,List.length_take];omega) hoff
      ·rw [hbt] at h
       simp only [cond_true] at h
       split at h
       ·rename_i t ad x hop
        split at h
        ·rename_i id off new had hnew
         split at h
         ·rename_i T1 hT1
          obtain ⟨hpa,h⟩:=r9 h
          obtain ⟨hag,hlen⟩:=CE hnew hT1
          refine VPi.of (by rw [hop];rfl) fun g w ρ r hρ=> ?_
          have hax:=hρ ad
          rw [had] at hax
          obtain ⟨g',w',k1,k2,k3,k4,k5⟩:=EQ (P:=P) r hT1 hax (hρ x)
          refine ⟨.skip,undef,g',w', .val undef,T1, ?_,rfl,⟨⟨hlen,fun k ok y hk hok hwk hpu hrd=> ?_⟩,h⟩,k2,k3,k4,k5⟩
          ·obtain ⟨dst,op,ty,pos,af,gd⟩:=o
           simp only at hop;subst hop
           simp [execOp,k1]
          ·have hap:=wE hpa hk hok hwk hpu
           have h6:bf P (T.takeO T0.objs.length) ok.op (aT G (only ops ok σ))=some y:=iU (T0:=T0) (T:=T.takeO T0.objs.length) (by rw [ht0T];simp) hrd
           rw [←AT (AgreeOut.take hag) hap];exact h6
         ·exact h.elim
        ·exact h.elim
       ·exact h.elim
      ·rw [hbf] at h
       simp only [cond_false] at h
       refine ⟨⟨rfl,fun k ok y _ _ _ _ hrd=>iU (T0:=T0) (T:=T.takeO T0.objs.length) (by rw [ht0T];simp) hrd⟩,h⟩
      ·simp only [VT.takeO,List.length_take,List.take_take,Nat.min_self]
       congr 1
       omega
     ·exact absurd (bI.1 h1) hFj
   ·exact h.elim
  | late=>
   simp only [bM,Bool.and_eq_true] at hp
   obtain ⟨⟨⟨hfl,hri⟩,hrd⟩,hp⟩:=hp
   have hri:=bI.1 hri
   obtain ⟨hun,o,ho,_⟩:=mem_ready.1 hri
   have hf:(i,none)∈flo:=by
    obtain ⟨q,hq,h1⟩:=List.any_eq_true.1 hfl
    simp only [Bool.and_eq_true] at h1
    obtain ⟨q1,q2⟩:=q
    have h2:=Nat.eq_of_beq_eq_true h1.1
    simp only at h2
    subst h2
    cases q2 with
    | none=>exact hq
    | some _=>cases h1.2
   simp only [cm,ho] at h
   split at h
   ·rename_i y T' hy
    cases hbx:cN P G ops flo V σ flo with
    | false=>rw [hbx] at h;exact h.elim
    | true=>
     rw [hbx] at h
     simp only [cond_true] at h
     have hnV:=ea hun
     by_cases hR:On R i
     ·obtain ⟨o',d,b,h1,h2,h3,blk,f,vo,mk,h4,h5,h6,h7⟩:=inv.flt i none hf hR hnV
      rw [ho] at h1;injection h1 with h1;subst h1
      have h8:=h5 T
      rw [hy] at h8;injection h8 with h8;injection h8 with h8 h9;subst h8 h9
      have hlt:=(Array.getElem?_eq_some_iff.1 ho).1
      obtain ⟨g',prot',inv',e⟩:=rW (V' :=V.setIfInBounds i true) (y:=mk T.objs.length) st inv ho hf hri hR (fun j hj=>by cases hj) (fun k=>⟨fun h=>by
        by_cases hik:i=k
        ·exact .inl (.inl hik.symm)
        ·exact .inr (be hik h),fun h=>by
        rcases h with (h | h) | h
        ·subst h;exact gO (by rw [inv.vs];exact hlt)
        ·cases h
        ·exact bY h⟩) (by simpa using inv.vs) (inv.cv.set hri) h3 h4.live (h4.or g w b h6) (fun d' u hd' hu g' hg' =>by
        rw [h2] at hd';injection hd' with hd';subst hd'
        rw [h7 u hu]
        exact h4.vr g' w _ b hg' (inv.pr i b h3).2.2.2.2.2 h6)
      exact ih _ T0 pend _ _ R g' w a prot' hp h inv' (hG.mono e) hds (hes.trans e) (hfx.trans hes yR) hro hfu
     ·refine wait hbx (Array.getElem?_eq_some_iff.1 ho).1 hR fun j hj hVj hFj n hlt hoff=> ?_
      exact absurd (bI.1 (hP hrd (uE inv hR hj hVj hFj))) hFj
   ·exact h.elim
  | box j=>
   simp only [bM,Bool.and_eq_true] at hp
   obtain ⟨⟨⟨⟨hfl,hri⟩,hdj⟩,hrd⟩,hp⟩:=hp
   have hri:=bI.1 hri
   obtain ⟨hun,o,ho,_⟩:=mem_ready.1 hri
   have hf:(i,some j)∈flo:=by
    obtain ⟨q,hq,h1⟩:=List.any_eq_true.1 hfl
    simp only [Bool.and_eq_true] at h1
    obtain ⟨q1,q2⟩:=q
    have h2:=Nat.eq_of_beq_eq_true h1.1
    simp only at h2
    subst h2
    cases q2 with
    | none=>cases h1.2
    | some j' =>
     have:=Nat.eq_of_beq_eq_true h1.2
     subst this;exact hq
   obtain ⟨o',ho',hlate,hbox⟩:=st.at hf
   rw [ho] at ho';injection ho' with ho';subst ho'
   obtain ⟨oj,hoj,hib,⟨e1,he1,hb1,hon1⟩,_⟩:=hbox j rfl
   simp only [cm,ho,hoj] at h
   split at h
   ·rename_i y T' hy
    cases hbx:cN P G ops flo V σ flo with
    | false=>rw [hbx] at h;exact h.elim
    | true=>
     rw [hbx] at h
     simp only [cond_true] at h
     have hnV:=ea hun
     have hlt:=(Array.getElem?_eq_some_iff.1 ho).1
     have hltj:=(Array.getElem?_eq_some_iff.1 hoj).1
     by_cases hR:On R i∧On R j
     ·obtain ⟨hR,hRj⟩:=hR
      obtain ⟨o',d,b,h1,h2,h3,oj',t,us,inf,h4,h5,h6,h7,h8,h9,h10⟩:=inv.flt i (some j) hf hR hnV
      rw [ho] at h1;injection h1 with h1;subst h1
      rw [hoj] at h4;injection h4 with h4;subst h4
      obtain ⟨new,k1,k2,k3⟩:=h10 hRj
      unfold Cu at hy
      rw [k1] at hy
      injection hy with hy;injection hy with hy1 hy2;subst hy1 hy2
      have hji:i<j:=by
       have:=(dC st.flow hoj).1 e1 he1 hb1
       omega
      obtain ⟨g',prot',inv',e⟩:=rW (V' :=(V.setIfInBounds i true).setIfInBounds j true) (y:= .ptr T.objs.length 0) (vo:= .cells new) st inv ho hf hri hR (fun j' hj' =>by injection hj' with hj';subst hj';exact hRj) (fun k=>⟨fun h=>by
        by_cases hjk:j=k
        ·exact .inl (.inr (by rw [hjk]))
        ·have h:=be hjk h
         by_cases hik:i=k
         ·exact .inl (.inl hik.symm)
         ·exact .inr (be hik h),fun h=>by
        rcases h with (h | h) | h
        ·subst h;exact bY (gO (by rw [inv.vs];exact hlt))
        ·injection h with h;subst h;exact gO (by simp [inv.vs];exact hltj)
        ·exact bY (bY h)⟩) (by simpa using inv.vs) (by
        have hc1:=inv.cv.set hri
        intro k ok hk hon e he hb
        by_cases hjk:j=k
        ·subst hjk
         rw [hoj] at hk;injection hk with hk;subst hk
         refine bY ?_
         unfold mf at hdj
         rw [hoj] at hdj
         have:=List.all_eq_true.1 hdj e (Array.mem_toList_iff.2 he)
         rw [hb] at this
         simpa only [Bool.not_true,Bool.false_or] using this
        ·exact bY (hc1 k ok hk (be hjk hon) e he hb)) h3 rfl ⟨us,t,h5,k2,k3⟩ (fun d' u hd' hu g' hg' =>by
        rw [h2] at hd';injection hd' with hd';subst hd'
        rw [h6 u hu]
        exact .ptr hg')
      exact ih _ T0 pend _ _ R g' w a prot' hp h inv' (hG.mono e) hds (hes.trans e) (hfx.trans hes yR) hro hfu
     ·have hn:∃i0,i0<ops.size∧¬On R i0:=by
       by_cases h1:On R i
       ·exact ⟨j,hltj,fun h2=>hR ⟨h1,h2⟩⟩
       ·exact ⟨i,hlt,h1⟩
      obtain ⟨i0,hi0,hn0⟩:=hn
      have hnj:¬On R j:=fun h=>by
       have hRi:=inv.cr j oj hoj h e1 he1 hb1
       rw [hon1] at hRi
       exact hR ⟨hRi,h⟩
      refine wait hbx hi0 hn0 fun j' hj hVj hFj n hlt hoff=> ?_
      exact absurd (bI.1 (hP hrd (uE inv hnj hj hVj hFj))) hFj
   ·exact h.elim
theorem CL {α:Type} {b:Bool} {x y:α} (h:cond b (some x) none=some y):b=true∧x=y:=by
 cases b with
 | false=>cases h
 | true=>injection h with h;exact ⟨rfl,h⟩
theorem VInv.start (hσ:VRs g w σ a.tmps.toList) (hr:RW g T w):VInv P G ops flo σ T T (Array.replicate ops.size false) (Array.replicate ops.size false) [] g w a.tmps.toList fun _=>none:=by
 have hoff:∀k,¬On (Array.replicate ops.size false) k:=fun k h=>by
  unfold On at h
  rw [Array.getD_eq_getD_getElem?,Array.getElem?_replicate] at h
  split at h<;>simp at h
 refine ⟨by simp,by simp,fun k o _ hk=>absurd hk (hoff k),fun k o _ hk=>absurd hk (hoff k),fun k hk=>absurd hk (hoff k),fun k _ hk=>absurd hk (hoff k),fun i j _=>⟨fun h=>absurd h (hoff i),fun h=>absurd h (hoff j)⟩,⟨hσ.1,fun s x u hs hu _=>hσ.2 s x u hs hu⟩,fun k o _ hk=>absurd hk (hoff k),fun i jo _ hk=>absurd hk (hoff i),fun k b hk=>(by cases hk),fun i j b h=>(by cases h), ?_,List.take_length⟩
 refine hr.lessFr rfl rfl rfl fun b hb=> ?_
 rcases hb with hb | ⟨k,hk⟩
 ·exact hb
 ·cases hk
theorem p9 {p:List (Nat × FK)} (h:iz P ops=some p):Region.noSelect ops=true∧VStat P ops (tB P ops)∧bM P ops (tB P ops) (bU (tB P ops)) p (Array.replicate ops.size false) []=true:=by
 unfold iz om yP at h
 obtain ⟨hb,h⟩:=CL h
 simp only [Bool.and_eq_true] at hb
 subst h
 obtain ⟨⟨⟨⟨⟨⟨h1,h2⟩,h3⟩,h4⟩,h5⟩,h6⟩,h7⟩:=hb
 exact ⟨h1,⟨h2,EP h2 h3,h4,h6⟩,dM h2 (uF h5) _ _ _ _ (MaskOk.zero _) h7⟩
end
end
section
open Go.RowKit

section
variable {P:Program} {F:Fence} {n:Nat} {ops:Array Oper}
def wF (ops:Array Oper) (t:Oper):Prop:=∀j,(cZ t.after.toList).testBit j=decide (j<ops.size)
theorem CM {t:Oper} (h:Nat.beq (cZ t.after.toList) (2^ops.size-1)=true):wF ops t:=by
 intro j
 rw [Nat.eq_of_beq_eq_true h,Nat.testBit_two_pow_sub_one]
theorem qa {t:Oper} (hf:dV ops=true) (ht:wF ops t) {listed:Array Bool} (hsz:listed.size=ops.size) {i:Nat} (hi:i∈Region.ready .any (ops.push t) (listed.push false)):
  (i<ops.size∧i∈Region.ready .any ops listed)∨(i=ops.size∧∀j,j<ops.size→listed.getD j false=true):=by
 obtain ⟨hun,o,ho,hed⟩:=mem_ready.1 hi
 have hi' :i<(ops.push t).size:=(Array.getElem?_eq_some_iff.1 ho).1
 rw [Array.size_push] at hi'
 rw [Array.getElem?_push] at ho
 by_cases h:i=ops.size
 ·right
  refine ⟨h,fun j hj=> ?_⟩
  rw [if_pos h] at ho
  obtain rfl:t=o:=Option.some.inj ho
  obtain ⟨e,he,hb,hon⟩:=(ei _ _).1 ((ht j).trans (decide_eq_true hj))
  have h2:=hed e (Array.mem_toList_iff.1 he) hb
  rw [hon,dH _ _ (by omega)] at h2
  exact h2
 ·left
  rw [if_neg h] at ho
  have hlt' :i<ops.size:=by omega
  refine ⟨hlt',mem_ready.2 ⟨by rw [dH _ _ (by omega)] at hun;exact hun,o,ho,fun e he hb=> ?_⟩⟩
  have h1:=(dC hf ho).1 e he hb
  have h2:=hed e he hb
  rwa [dH _ _ (by omega)] at h2
theorem CN {o:Oper} {a:Act} {w:World} {K:Act→World→Prop} {Q1 Q2:Act→World→Prop} (hh:o.wpIn F n P a w K (eb Q1)):o.wpIn F n P a w K (eb Q2):=by
 unfold Oper.wpIn at*
 refine ⟨hh.1, ?_⟩
 have hh:=hh.2
 generalize (o.semAt F.round a.eval).run P w=r at*
 have hl:∀{Q:Act→World→Prop},LetsOut (eb Q)→False:=fun h=>by
  obtain ⟨a₀,w₀,h₀⟩:=h;exact h₀
 cases r with
 | ok x w' =>
  cases x<;>simp only [Oper.uponIn] at hh ⊢<;>
   first
    | exact hh
    | exact ⟨hh.1,CallsIn.mono hh.2 (fun e w'' he=>by cases e<;>first | exact he | exact (hl he).elim)⟩
    | exact ⟨hh.1,RoundIn.mono hh.2 (fun e w'' he=>by cases e<;>first | exact he | exact (hl he).elim)⟩
 | halt x w' =>cases x<;>simp only [Oper.uponIn] at hh ⊢<;>exact hh.elim
theorem AZ {t:Oper} (hf:dV ops=true) (ht:wF ops t) {Q:Act→World→Prop}:
    ∀(fuel:Nat) (listed:Array Bool) (a:Act) (w:World),listed.size=ops.size→
      wpAnyIn F n P .any ops (eb fun a w=>wpOpIn F n P (ops.push t) (eb Q) ops.size Q a w) fuel listed a w→
      wpAnyIn F n P .any (ops.push t) (eb Q) (fuel+1) (listed.push false) a w:=by
  have hdone:∀(listed:Array Bool),listed.size=ops.size→(∀j,j<ops.size→listed.getD j false=true)→
      Region.ready .any (ops.push t) ((listed.push false).setIfInBounds ops.size true)= []:=by
    intro listed hsz hall
    apply List.eq_nil_iff_forall_not_mem.2
    intro i hi
    obtain ⟨hun,o,ho,_⟩:=mem_ready.1 hi
    have hi' :i<(ops.push t).size:=(Array.getElem?_eq_some_iff.1 ho).1
    rw [Array.size_push] at hi'
    have:((listed.push false).setIfInBounds ops.size true).getD i true=true:=by
      by_cases h:i=ops.size
      · subst h
        simp
      · rw [getD_set_ne true (Ne.symm h),dH _ _ (by omega)]
        have h3:=hall i (by omega)
        have hb:i<listed.size:=by omega
        simp [hb] at h3 ⊢;exact h3
    rw [this] at hun
    cases hun
  have hlast:∀(fuel:Nat) (listed:Array Bool) (a:Act) (w:World),listed.size=ops.size→(∀j,j<ops.size→listed.getD j false=true)→
      wpOpIn F n P (ops.push t) (eb Q) ops.size Q a w→wpOpIn F n P (ops.push t) (eb Q) ops.size (wpAnyIn F n P .any (ops.push t) (eb Q) fuel ((listed.push false).setIfInBounds ops.size true)) a w:=by
    intro fuel listed a w hsz hall h
    refine wpOpIn_mono (fun a' w' hq=> ?_) h
    cases fuel with
    | zero=>exact ⟨hdone listed hsz hall,hq⟩
    | succ k=>exact ⟨fun _=>hq,fun i hi=>by rw [hdone listed hsz hall] at hi;cases hi⟩
  have hnot:∀(listed:Array Bool),listed.size=ops.size→(∀j,j<ops.size→listed.getD j false=true)→ops.size∈Region.ready .any (ops.push t) (listed.push false):=by
    intro listed hsz hall
    refine mem_ready.2 ⟨?_,t,by simp,fun e he hb=> ?_⟩
    · simp [←hsz]
    · have h1:=(ei t.after.toList e.on).2 ⟨e,Array.mem_toList_iff.2 he,hb,rfl⟩
      rw [ht] at h1
      have h1:=of_decide_eq_true h1
      rw [dH _ _ (by omega)]
      exact hall e.on h1
  intro fuel
  induction fuel with
  | zero=>
    intro listed a w hsz h
    have hall:=mB hf hsz h.1
    refine ⟨fun h0=> ?_,fun i hi=> ?_⟩
    · have:=hnot listed hsz hall
      rw [h0] at this;cases this
    · rcases qa hf ht hsz hi with ⟨h1,h2⟩ | ⟨rfl,h2⟩
      · rw [h.1] at h2;cases h2
      · exact hlast 0 listed a w hsz hall h.2
  | succ fuel ih=>
    intro listed a w hsz h
    refine ⟨fun h0=> ?_,fun i hi=> ?_⟩
    · have hr:Region.ready .any ops listed= []:=by
        apply List.eq_nil_iff_forall_not_mem.2
        intro i hi
        have hi2:i∈Region.ready .any (ops.push t) (listed.push false):=by
          obtain ⟨hun,o,ho,hed⟩:=mem_ready.1 hi
          have hlt:i<ops.size:=(Array.getElem?_eq_some_iff.1 ho).1
          refine mem_ready.2 ⟨by rw [dH _ _ (by omega)];exact hun,o,by rw [Array.getElem?_push,if_neg (by omega)];exact ho,fun e he hb=> ?_⟩
          have:=(dC hf ho).1 e he hb
          rw [dH _ _ (by omega)]
          exact hed e he hb
        rw [h0] at hi2;cases hi2
      have:=hnot listed hsz (mB hf hsz hr)
      rw [h0] at this;cases this
    · rcases qa hf ht hsz hi with ⟨h1,h2⟩ | ⟨rfl,h2⟩
      · have h3:=h.2 i h2
        obtain ⟨_,o,ho,_⟩:=mem_ready.1 h2
        rw [Eg (by omega)]
        unfold wpOpIn at h3 ⊢
        rw [Array.getElem?_push,if_neg (by omega)]
        simp only [ho] at h3 ⊢
        rw [yf hf t ho]
        split at h3
        · rename_i hw
          rw [if_pos hw]
          exact CN (Oper.wpIn_mono (fun a' w' hq=>ih (listed.setIfInBounds i true) a' w' (by simpa using hsz) hq) h3)
        · rename_i hw
          rw [if_neg hw]
          exact ⟨h3.1,ih (listed.setIfInBounds i true) _ w (by simpa using hsz) h3.2⟩
      · have hr:Region.ready .any ops listed= []:=by
          apply List.eq_nil_iff_forall_not_mem.2
          intro j hj
          obtain ⟨hun,o,ho,_⟩:=mem_ready.1 hj
          have hlt:j<ops.size:=(Array.getElem?_eq_some_iff.1 ho).1
          have h3:=h2 j hlt
          have hb:j<listed.size:=by omega
          simp [hb] at h3 hun
          rw [h3] at hun;cases hun
        exact hlast _ listed a w hsz h2 (h.1 hr)
theorem tH (n:Nat):Array.replicate (n+1) false=(Array.replicate n false).push false:=Array.replicate_succ
end
end

end Go.Proofs.YtnfplefcghadfaaGreat