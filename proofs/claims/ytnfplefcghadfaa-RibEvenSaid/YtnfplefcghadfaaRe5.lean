/-Part 5 of the proof of ribEven_holds:RbA,RbB,RbC ... No condition. -/
import Derived.Laws.BitsAllLaws
import Derived.Shelf.SlSortCmp.NoneTotal
import Derived.Test.YtnfplefcghadfaaRe1
import Derived.Test.YtnfplefcghadfaaRe2
import Derived.Test.YtnfplefcghadfaaRe3
import Derived.Test.YtnfplefcghadfaaRe4
set_option maxRecDepth 100000
namespace Go.Proofs.Ytnfplefcghadfaa
section
open Go.RowKit

abbrev ed:=108
abbrev FW:=107
abbrev tf:=76
noncomputable def eS:Code:=match cu (ii Try.prog FW) with
 | some (a,_)=>a
 | none=> .skip
noncomputable def dI:Code:=match cu (ii Try.prog FW) with
 | some (_,b)=>b
 | none=> .skip
def kP:KS:=⟨true, [.int .u32, .int .i64]⟩
def uT:TV:= .val (.tuple #[])
def bH (p:Px):Value:= .agg #[.int .u32 p.1, .int .i64 p.2]
def pX:Value→Px
 | .agg #[.int _ a, .int _ n]=>(a,n)
 | _=>(0,0)
structure MkOk (lk:Value→Option TV) (es:List (Value × TV × Nat)) (ck:Nat):Prop where
 keys:∀e∈es,∃p,e.1=bH p
 born:∀e∈es,e.2.2<ck
 borns:(es.map (·.2.2)).Nodup
 ren:∀f g,VO.ren f g (.map kP lk es ck)= .map kP lk es ck
 few:es.length≤2000000
def kD (es:List (Value × TV × Nat)):List Px:=es.map fun e=>pX e.1
def xP:List Px→TV
 | []=> .val (.slice none 0 0)
 | p::l=> .vec 2 ((p::l).map au) (.tail 0 (p::l).length)
def tP:List Px→bF
 | []=> []
 | p::l=> [((p::l).length,2,true)]
def mN (es:List (Value × TV × Nat)) (x:TV) (tl:bF):Prop:=∃l:List Px,l.Perm (kD es)∧x=xP l∧tl=tP l
def C9:List TV:= [.val (.slice none 0 0), .fn (.func ed) [] [.ptr 1 0], .ptr 2 0,uT, .val (.slice none 0 0),uT, .fn (.func ed) [] [.ptr 1 0],uT,uT,uT,uT,uT,uT]
noncomputable def o9 (lk:Value→Option TV) (es:List (Value × TV × Nat)) (ck:Nat) (x:TV) (tl:bF) (seen:List Nat):VT:=⟨[.map kP lk es ck, .cells [.map 0], .cells [x], .defd, .loop .ready none C9 #[7] eS dI, .iter (.map 0) ck seen ck],tl⟩
def Gz:List TV:= [.yld 4, .ptr 1 0, .dead, .dead, .map 0, .ptr 5 0]++List.replicate 8 .dead
noncomputable def GA (enA enN:List Nat→Int) (enV:List Nat→TV):dT:=fun (o:Oper) (_:List TV) (T:VT)=>match o.dst with
 | some 8=>match T.objs[5]? with
  | some (VO.iter _ _ seen _)=>some (.tup [.val (.agg #[.int .u32 (enA seen), .int .i64 (enN seen)]),enV seen],some T)
  | _=>none
 | _=>none
noncomputable def tg (lk:Value→Option TV) (es:List (Value × TV × Nat)) (ck:Nat):VT:=⟨[.map kP lk es ck, .cells [.map 0], .cells [.val (.slice none 0 0)], .defd, .loop .ready none C9 #[7] eS dI], []⟩
def Da (es:List (Value × TV × Nat)) (T:VT):Prop:=∃lk ck,MkOk lk es ck∧T=tg lk es ck
def Db (es:List (Value × TV × Nat)):aQ:=fun ro ys T K=>match ys with
 | [.yld 4, .ptr 1 0]=>(ro=0∧Da es T)∧∀(x:TV) (tl:bF),mN es x tl→K (.tup []) ⟨T.objs.set 2 (.cells [x]),tl⟩
 | _=>ap 83 default ys
noncomputable def GB (lx:List Nat→Bs) (tx:List Nat→Tok) (gx:List Nat→bF):dT:=fun (o:Oper) (_:List TV) (T:VT)=>match o.dst with
 | some 11=>match T.objs[5]? with
  | some (VO.iter _ _ seen _)=>some (.vec 2 (lx seen) (tx seen),some {T with tails:=gx seen})
  | _=>none
 | _=>none
def pY:List Nat:= [0,1,4,5]
def qZ:List TV:= [.yld 4, .ptr 1 0, .map 0, .ptr 5 0]
noncomputable def Gf (lk:Value→Option TV) (es:List (Value × TV × Nat)) (ck:Nat) (c0:Code):Nat→Option (bs × Code):=cT [(0,eR 14 pY [] qZ (o9 lk es ck (.val (.slice none 0 0)) [] []) (fun K=>∀(x:TV) (tl:bF) (seen:List Nat),mN es x tl→K .normal (aL 14 pY qZ) (o9 lk es ck x tl seen) []),c0)]
theorem E3 (lk:Value→Option TV) (es:List (Value × TV × Nat)) (ck:Nat) (x1:TV) (lx:List Nat→Bs) (tx:List Nat→Tok) (gx:List Nat→bF) (tl:bF) (seen:List Nat) (eA eN:List Nat→Int) (eV:List Nat→TV) (Q:Exit→List TV→VT→List Nat→Nat→Prop):vx Try.prog ae aO (GA eA eN eV) 300 (jY 1000001 (AY 5 6 7,aR Try.prog ed 1) 1000003 (wy Try.prog ae aO (GB lx tx gx) 250 (aR Try.prog ed 3),aR Try.prog ed 3)) none 0 (bR Try.prog ed 0) Gz (o9 lk es ck x1 tl seen) [] (cz pY Q)=
 ((aR Try.prog ed (1:Nat)=aR Try.prog ed (1:Nat))∧
 (((@Eq (Bool) true true)∧
 ((@Eq (Bool) (fS seen ck es) false)∧
 (@Eq (Bool) true true)))∧
 ((wA (ck) (seen) (es)→Q (.exit 0) [(.yld 4),(.ptr 1 0),(.map 0),(.ptr 5 0)] ⟨[(.map ⟨true, [(.int .u32),(.int .i64)]⟩ (lk) (es) (ck)),(.cells [(.map 0)]),(.cells [(x1)]), .defd,(.loop .ready .none [(.val (.slice .none 0 0)),(.fn (.func 108) [] [(.ptr 1 0)]),(.ptr 2 0),(.val (.tuple #[])),(.val (.slice .none 0 0)),(.val (.tuple #[])),(.fn (.func 108) [] [(.ptr 1 0)]),(.val (.tuple #[])),(.val (.tuple #[])),(.val (.tuple #[])),(.val (.tuple #[])),(.val (.tuple #[])),(.val (.tuple #[]))] #[7] eS dI),(.iter (.map 0) (ck) (seen) (ck))],(tl)⟩ [] 14)∧
 (∀k:Value,(∀v:TV,(∀s:Nat,(wB (k) (v) (s) (ck) (seen) (es)→(bE Try.prog (fun _=> .none) 0 ⟨[(.map ⟨true, [(.int .u32),(.int .i64)]⟩ (lk) (es) (ck)),(.cells [(.map 0)]),(.cells [(x1)]), .defd,(.loop .ready .none [(.val (.slice .none 0 0)),(.fn (.func 108) [] [(.ptr 1 0)]),(.ptr 2 0),(.val (.tuple #[])),(.val (.slice .none 0 0)),(.val (.tuple #[])),(.fn (.func 108) [] [(.ptr 1 0)]),(.val (.tuple #[])),(.val (.tuple #[])),(.val (.tuple #[])),(.val (.tuple #[])),(.val (.tuple #[])),(.val (.tuple #[]))] #[7] eS dI),(.iter (.map 0) (ck) (seen++ [s]) (ck))],(tl)⟩ (.entry (.tmp 5)) [(5,(.ptr 5 0))] (.tup [(.val (.agg #[(.int .u32 (eA (seen++ [s]))),(.int .i64 (eN (seen++ [s])))])),(eV (seen++ [s]))]) ⟨[(.map ⟨true, [(.int .u32),(.int .i64)]⟩ (lk) (es) (ck)),(.cells [(.map 0)]),(.cells [(x1)]), .defd,(.loop .ready .none [(.val (.slice .none 0 0)),(.fn (.func 108) [] [(.ptr 1 0)]),(.ptr 2 0),(.val (.tuple #[])),(.val (.slice .none 0 0)),(.val (.tuple #[])),(.fn (.func 108) [] [(.ptr 1 0)]),(.val (.tuple #[])),(.val (.tuple #[])),(.val (.tuple #[])),(.val (.tuple #[])),(.val (.tuple #[])),(.val (.tuple #[]))] #[7] eS dI),(.iter (.map 0) (ck) (seen++ [s]) (ck))],(tl)⟩∧
 ((aR Try.prog ed (3:Nat)=aR Try.prog ed (3:Nat))∧
 (bE Try.prog (fun _=> .none) 0 ⟨[(.map ⟨true, [(.int .u32),(.int .i64)]⟩ (lk) (es) (ck)),(.cells [(.map 0)]),(.cells [(x1)]), .defd,(.loop .busy .none [(.val (.slice .none 0 0)),(.fn (.func 108) [] [(.ptr 1 0)]),(.ptr 2 0),(.val (.tuple #[])),(.val (.slice .none 0 0)),(.val (.tuple #[])),(.fn (.func 108) [] [(.ptr 1 0)]),(.val (.tuple #[])),(.val (.tuple #[])),(.val (.tuple #[])),(.val (.tuple #[])),(.val (.tuple #[])),(.val (.tuple #[]))] #[7] eS dI),(.iter (.map 0) (ck) (seen++ [s]) (ck)),(.cells [(.val (.int .u32 (eA (seen++ [s])))),(.val (.int .i64 (eN (seen++ [s]))))]),(.cells [(.val (.int .u32 (eA (seen++ [s])))),(.val (.int .i64 (eN (seen++ [s]))))])],(tl)⟩ (.call ⟨(.builtin .append), #[(.tmp 8),(.tmp 10)], #[42,42]⟩) [(8,(x1)),(10,(.vec 2 [[(.val (.int .u32 (eA (seen++ [s])))),(.val (.int .i64 (eN (seen++ [s]))))]] .full))] (.vec 2 (lx (seen++ [s])) (tx (seen++ [s]))) ⟨[(.map ⟨true, [(.int .u32),(.int .i64)]⟩ (lk) (es) (ck)),(.cells [(.map 0)]),(.cells [(x1)]), .defd,(.loop .busy .none [(.val (.slice .none 0 0)),(.fn (.func 108) [] [(.ptr 1 0)]),(.ptr 2 0),(.val (.tuple #[])),(.val (.slice .none 0 0)),(.val (.tuple #[])),(.fn (.func 108) [] [(.ptr 1 0)]),(.val (.tuple #[])),(.val (.tuple #[])),(.val (.tuple #[])),(.val (.tuple #[])),(.val (.tuple #[])),(.val (.tuple #[]))] #[7] eS dI),(.iter (.map 0) (ck) (seen++ [s]) (ck)),(.cells [(.val (.int .u32 (eA (seen++ [s])))),(.val (.int .i64 (eN (seen++ [s]))))]),(.cells [(.val (.int .u32 (eA (seen++ [s])))),(.val (.int .i64 (eN (seen++ [s]))))])],(gx (seen++ [s]))⟩∧
 Q .normal [(.yld 4),(.ptr 1 0),(.map 0),(.ptr 5 0)] ⟨[(.map ⟨true, [(.int .u32),(.int .i64)]⟩ (lk) (es) (ck)),(.cells [(.map 0)]),(.cells [(.vec 2 (lx (seen++ [s])) (tx (seen++ [s])))]), .defd,(.loop .ready .none [(.val (.slice .none 0 0)),(.fn (.func 108) [] [(.ptr 1 0)]),(.ptr 2 0),(.val (.tuple #[])),(.val (.slice .none 0 0)),(.val (.tuple #[])),(.fn (.func 108) [] [(.ptr 1 0)]),(.val (.tuple #[])),(.val (.tuple #[])),(.val (.tuple #[])),(.val (.tuple #[])),(.val (.tuple #[])),(.val (.tuple #[]))] #[7] eS dI),(.iter (.map 0) (ck) (seen++ [s]) (ck)),(.cells [(.val (.int .u32 (eA (seen++ [s])))),(.val (.int .i64 (eN (seen++ [s]))))]),(.cells [(.val (.int .u32 (eA (seen++ [s])))),(.val (.int .i64 (eN (seen++ [s]))))])],(gx (seen++ [s]))⟩ [] 14)))))))))):=by kernel_rfl
theorem E4 (lk:Value→Option TV) (es:List (Value × TV × Nat)) (ck:Nat) (Q:TV→VT→Prop):an Try.prog ae (aG [(ed,Db es)]) aK 300 aE 0 tf [.fn (.func ed) [] [.ptr 1 0]] ⟨[.map kP lk es ck, .cells [.map 0]], []⟩ Q=
 (((@Eq (Nat) 0 0)∧
 Da (es) ⟨[(.map ⟨true, [(.int .u32),(.int .i64)]⟩ (lk) (es) (ck)),(.cells [(.map 0)]),(.cells [(.val (.slice .none 0 0))]), .defd,(.loop .ready .none [(.val (.slice .none 0 0)),(.fn (.func 108) [] [(.ptr 1 0)]),(.ptr 2 0),(.val (.tuple #[])),(.val (.slice .none 0 0)),(.val (.tuple #[])),(.fn (.func 108) [] [(.ptr 1 0)]),(.val (.tuple #[])),(.val (.tuple #[])),(.val (.tuple #[])),(.val (.tuple #[])),(.val (.tuple #[])),(.val (.tuple #[]))] #[7] eS dI)], []⟩)∧
 (∀x:TV,(∀tl:bF,(mN (es) (x) (tl)→Q (x) ⟨[(.map ⟨true, [(.int .u32),(.int .i64)]⟩ (lk) (es) (ck)),(.cells [(.map 0)]),(.cells [(x)]), .gone,(.loop .exhausted .none [(.val (.slice .none 0 0)),(.fn (.func 108) [] [(.ptr 1 0)]),(.ptr 2 0),(.val (.tuple #[])),(.val (.slice .none 0 0)),(.val (.tuple #[])),(.fn (.func 108) [] [(.ptr 1 0)]),(.val (.tuple #[])),(.val (.tuple #[])),(.val (.tuple #[])),(.val (.tuple #[])),(.val (.tuple #[])),(.val (.tuple #[]))] #[7] eS dI)],(tl)⟩)))):=by kernel_rfl
theorem E5 (lk:Value→Option TV) (es:List (Value × TV × Nat)) (ck:Nat) (Q:TV→VT→Prop):an Try.prog ae aO aK 300 (Gf lk es ck (aq Try.prog ed 0)) 0 ed [.yld 4, .ptr 1 0] (tg lk es ck) Q=
 ((aq Try.prog ed (0:Nat)=aq Try.prog ed (0:Nat))∧
 (((@Eq (Option Nat) .none .none)∧
 ((@Eq (Nat) 0 0)∧
 ((@Eq (List Nat) [] [])∧
 (True  ∧
 ((@Eq (VT) ⟨[(.map ⟨true, [(.int .u32),(.int .i64)]⟩ (lk) (es) (ck)),(.cells [(.map 0)]),(.cells [(.val (.slice .none 0 0))]), .defd,(.loop .ready .none [(.val (.slice .none 0 0)),(.fn (.func 108) [] [(.ptr 1 0)]),(.ptr 2 0),(.val (.tuple #[])),(.val (.slice .none 0 0)),(.val (.tuple #[])),(.fn (.func 108) [] [(.ptr 1 0)]),(.val (.tuple #[])),(.val (.tuple #[])),(.val (.tuple #[])),(.val (.tuple #[])),(.val (.tuple #[])),(.val (.tuple #[]))] #[7] eS dI),(.iter (.map 0) (ck) [] (ck))], []⟩ ⟨[(.map ⟨true, [(.int .u32),(.int .i64)]⟩ (lk) (es) (ck)),(.cells [(.map 0)]),(.cells [(.val (.slice .none 0 0))]), .defd,(.loop .ready .none [(.val (.slice .none 0 0)),(.fn (.func 108) [] [(.ptr 1 0)]),(.ptr 2 0),(.val (.tuple #[])),(.val (.slice .none 0 0)),(.val (.tuple #[])),(.fn (.func 108) [] [(.ptr 1 0)]),(.val (.tuple #[])),(.val (.tuple #[])),(.val (.tuple #[])),(.val (.tuple #[])),(.val (.tuple #[])),(.val (.tuple #[]))] #[7] eS dI),(.iter (.map 0) (ck) [] (ck))], []⟩)∧
 ((@Eq (Bool) true true)∧
 (@Eq (List TV) [(.yld 4),(.ptr 1 0),(.map 0),(.ptr 5 0)] [(.yld 4),(.ptr 1 0),(.map 0),(.ptr 5 0)])))))))∧
 (∀x:TV,(∀tl:bF,(∀seen:List Nat,(mN (es) (x) (tl)→Q (.tup []) ⟨[(.map ⟨true, [(.int .u32),(.int .i64)]⟩ (lk) (es) (ck)),(.cells [(.map 0)]),(.cells [(x)]), .defd,(.loop .ready .none [(.val (.slice .none 0 0)),(.fn (.func 108) [] [(.ptr 1 0)]),(.ptr 2 0),(.val (.tuple #[])),(.val (.slice .none 0 0)),(.val (.tuple #[])),(.fn (.func 108) [] [(.ptr 1 0)]),(.val (.tuple #[])),(.val (.tuple #[])),(.val (.tuple #[])),(.val (.tuple #[])),(.val (.tuple #[])),(.val (.tuple #[]))] #[7] eS dI),(.iter (.map 0) (ck) (seen) (ck))],(tl)⟩)))))):=by kernel_rfl
end
section
open Go.RowKit

theorem th (p:Px):pX (bH p)=p:=rfl
theorem pc (l:List Px) (f:Nat→Option Nat):(xP l).ren f (am 1)=xP l:=by
 cases l with
 | nil=>rfl
 | cons p l=>simp only [xP,TV.ren,dR,Tok.ren];rfl
theorem kE (l:List Px):(tP l).length≤1:=by cases l<;>simp [tP]
theorem yk (l:List Px) (p:Px):xP (l++ [p])= .vec 2 ((l++ [p]).map au) (.tail 0 (l++ [p]).length):=by cases l<;>rfl
theorem yl (l:List Px) (p:Px):tP (l++ [p])= [((l++ [p]).length,2,true)]:=by cases l<;>rfl
theorem pd:∃(inf:TypeInfo) (z:Value),Try.prog.info? 29=some inf∧inf.size=2∧inf.bytes+1≤100∧inf.zero=some z∧z.cells.size=2:=
 ⟨(Try.prog.info? 29).getD default,((Try.prog.info? 29).getD default).zero.getD default,by kernel_rfl,by kernel_rfl,Nat.le_of_ble_eq_true (by kernel_rfl),by kernel_rfl,by kernel_rfl⟩
theorem Dc (objs:List VO) (l:List Px) (p:Px) (h:l.length≤2000000):bE Try.prog ae 0 ⟨objs,tP l⟩ (.call ⟨.builtin .append, #[.tmp 8, .tmp 10], #[42,42]⟩) [(8,xP l),(10, .vec 2 [au p] .full)] (.vec 2 ((l++ [p]).map au) (.tail 0 (l++ [p]).length)) ⟨objs,tP (l++ [p])⟩:=by
  obtain ⟨inf,z,i1,i2,i3,i4,i5⟩:=pd
  have h1:=ij (inf:=inf) (P:=Try.prog) (G:=ae) (ro:=0) (T:=⟨objs,tP l⟩) (T1:=⟨objs, [(l.length,2,true)]⟩) (t:=42) (tx:=42) (s:= .tmp 8) (x:= .tmp 10) (l:= [(8,xP l),(10, .vec 2 [au p] .full)]) (es:=l.map au) (es2:= [au p]) (k:=0) (n:=l.length) (bn:=true) Try.underlying42 i1 i4 (by rw [i5,i2]) (by rw [i2];omega) (by kernel_rfl)
    (by rw [i2];cases l<;>simp [aS,cS,eY,xP,tP]) (by rw [i2];rfl)
    (by have h1:=i3
        have h2:=Nat.mul_le_mul (show (l.map au).length+ [au p].length≤2000001 by simp only [List.length_map,List.length_cons,List.length_nil];omega) h1
        omega)
  rw [i2] at h1
  rw [yl]
  rw [show (l++ [p]).map au=l.map au++ [au p] by rw [List.map_append];rfl,show (l++ [p]).length=l.length+ [au p].length by simp]
  exact h1
section
variable {lk:Value→Option TV} {es:List (Value × TV × Nat)} {ck:Nat}
def oa (es:List (Value × TV × Nat)) (s:Nat):Value × TV × Nat:=(es.find? fun e=>Nat.beq e.2.2 s).getD (.bool false, .dead,0)
def cQ (es:List (Value × TV × Nat)) (s:Nat):Px:=pX (oa es s).1
theorem ti:∀{es:List (Value × TV × Nat)} {e:Value × TV × Nat},(es.map (·.2.2)).Nodup→e∈es→es.find? (fun x=>Nat.beq x.2.2 e.2.2)=some e
 | [],_,_,h=>by cases h
 | a::es,e,hn,h=>by
  rw [List.find?_cons]
  rcases List.mem_cons.1 h with rfl | h
  ·rw [Nat.beq_refl]
  ·have hne:Nat.beq a.2.2 e.2.2=false:=by
    cases hb:Nat.beq a.2.2 e.2.2 with
    | false=>rfl
    | true=>
     have he:=Nat.eq_of_beq_eq_true hb
     have:=(List.nodup_cons.1 hn).1
     exact absurd (by show a.2.2∈_;rw [he];exact List.mem_map_of_mem (f:=fun e:Value × TV × Nat=>e.2.2) h) this
   rw [hne]
   exact ti (List.nodup_cons.1 hn).2 h
theorem MkOk.lost (h:MkOk lk es ck) (seen:List Nat):fS seen ck es=false:=by
 unfold fS
 cases es with
 | nil=>simp
 | cons e l=>
  have:=h.born e List.mem_cons_self
  have h1:decide (ck≤e.2.2)=false:=decide_eq_false (by omega)
  simp [h1]
theorem MkOk.new (h:MkOk lk es ck) (seen:List Nat):fB ck seen es= []:=by
 unfold fB
 refine List.filter_eq_nil_iff.2 fun e he=> ?_
 have:=h.born e he
 simp [this]
theorem MkOk.nx (h:MkOk lk es ck) {seen:List Nat} {k:Value} {v:TV} {s:Nat} (hx:wB k v s ck seen es):(k,v,s)∈es∧s∉seen:=by
 unfold wB at hx
 rw [h.new,List.append_nil] at hx
 unfold bX at hx
 obtain ⟨h1,h2⟩:=List.mem_filter.1 hx
 refine ⟨h1, ?_⟩
 simp at h2
 exact h2.1
theorem MkOk.no (h:MkOk lk es ck) {seen:List Nat} (hx:wA ck seen es):∀e∈es,e.2.2∈seen:=by
 intro e he
 have:=List.filter_eq_nil_iff.1 hx e he
 have hb:=h.born e he
 simp [hb] at this
 exact this
def KyInv (es:List (Value × TV × Nat)) (seen:List Nat):Prop:=seen.Nodup∧∀s∈seen,s∈es.map (·.2.2)
theorem KyInv.le {seen:List Nat} (h:KyInv es seen):seen.length≤es.length:=by
 have:=h.1.length_le_of_subset (l₂:=es.map (·.2.2)) (fun s hs=>h.2 s hs)
 simpa using this
theorem Dd (h:MkOk lk es ck):(es.map (·.2.2)).map (cQ es)=kD es:=by
 rw [List.map_map]
 unfold kD
 refine List.map_congr_left fun e he=> ?_
 show pX (oa es e.2.2).1=_
 rw [oa,ti h.borns he];rfl
theorem KyInv.done (h:MkOk lk es ck) {seen:List Nat} (hi:KyInv es seen) (hx:wA ck seen es):(seen.map (cQ es)).Perm (kD es):=by
 rw [←Dd h]
 refine List.Perm.map _ ((List.perm_ext_iff_of_nodup hi.1 h.borns).2 fun a=>⟨hi.2 a,fun ha=> ?_⟩)
 obtain ⟨e,he,rfl⟩:=List.mem_map.1 ha
 exact h.no hx e he
theorem MkOk.at (h:MkOk lk es ck) {k:Value} {v:TV} {s:Nat} (hm:(k,v,s)∈es):k=bH (cQ es s)∧v=(oa es s).2.1∧es.find? (fun x=>Nat.beq x.2.2 s)=some (k,v,s):=by
 have h1:=ti h.borns hm
 obtain ⟨p,hp⟩:=h.keys _ hm
 simp only at h1 hp
 refine ⟨?_, ?_,h1⟩
 ·rw [cQ,oa,h1,Option.getD_some,hp,th]
 ·rw [oa,h1,Option.getD_some]
noncomputable def od (lk:Value→Option TV) (es:List (Value × TV × Nat)) (ck:Nat) (seen:List Nat):VT:=o9 lk es ck (xP (seen.map (cQ es))) (tP (seen.map (cQ es))) seen
theorem ym (h:MkOk lk es ck) (seen:List Nat) (l:List VO):VT.keep ⟨(od lk es ck seen).objs++l,(od lk es ck seen).tails⟩ 6 1=od lk es ck seen:=by
 have e:=h.ren (am 6) (am 1)
 have e2:(tP (seen.map (cQ es))).take 1=tP (seen.map (cQ es)):=List.take_of_length_le (kE _)
 simp only [VT.keep,od,o9,List.cons_append,List.nil_append,List.take_succ_cons,List.take_zero,List.map_cons,List.map_nil,e,e2]
 simp only [VO.ren,ar,pc]
 rfl
theorem BZ (h:MkOk lk es ck) (K:KX) (hK:∀(x:TV) (tl:bF) (seen:List Nat),mN es x tl→K .normal (aL 14 pY qZ) (o9 lk es ck x tl seen) []):
    VWx Try.prog ae none 0 (aq Try.prog ed 0) (aL 14 pY qZ) (o9 lk es ck (.val (.slice none 0 0)) [] []) [] K:=by
  refine eQ (f:=ed) (id:=0) (by kernel_rfl) 14 pY (fun s:List Nat=>es.length-s.length) (fun _=>qZ) (od lk es ck) (KyInv es) 6 1 (fun s _=>⟨Nat.le_refl _,kE _⟩)
    (fun e vs T=>e= .normal∧vs=qZ∧∃x tl seen,mN es x tl∧T=o9 lk es ck x tl seen) (fun seen hs=> ?_) [] ⟨List.nodup_nil,fun s h=>by cases h⟩ K ?_
  rotate_left
  · rintro e vs T ⟨rfl,rfl,x,tl,seen,h1,rfl⟩
    exact hK x tl seen h1
  have hL:∀F2:dT,dl Try.prog ae (jY 1000001 (AY 5 6 7,aR Try.prog ed 1) 1000003 (wy Try.prog ae aO F2 250 (aR Try.prog ed 3),aR Try.prog ed 3)):=
    fun F2=>pV (CF (by kernel_rfl)) (fun rd ro σ T D K h=>BF ac aa ag (F2:=F2) (n:=250) (c:=aR Try.prog ed 3) rd ro σ T D K h)
  have hle:=hs.le
  have hf:=h.few
  let lst:=fun l:List Nat=>l.getLast?.getD 0
  have hv:=E3 lk es ck (xP (seen.map (cQ es))) (fun l=>(l.map (cQ es)).map au) (fun l=> .tail 0 (l.map (cQ es)).length) (fun l=>tP (l.map (cQ es))) (tP (seen.map (cQ es))) seen (fun l=>(cQ es (l.getLast?.getD 0)).1) (fun l=>(cQ es (l.getLast?.getD 0)).2) (fun l=>(oa es (l.getLast?.getD 0)).2.1) (rG 14 0 (fun s:List Nat=>es.length-s.length) (fun _=>qZ) (od lk es ck) (KyInv es) 6 1 seen (fun e vs T=>e= .normal∧vs=qZ∧∃x tl seen,mN es x tl∧T=o9 lk es ck x tl seen))
  refine bt ac aa ag (hL _) hv ⟨rfl,⟨rfl,h.lost seen,rfl⟩,fun hno=> ?_,fun k v s hnx=> ?_⟩
  · refine ⟨rfl,rfl, ?_⟩
    exact ⟨rfl,rfl,_,_,seen,⟨_,hs.done h hno,rfl,rfl⟩,rfl⟩
  · obtain ⟨hm,hns⟩:=h.nx hnx
    obtain ⟨rfl,rfl,hfind⟩:=h.at hm
    have hlast:∀l:List Nat,(l++ [s]).getLast?=some s:=fun l=>by simp
    have hi2:KyInv es (seen++ [s]):=⟨List.nodup_append.2 ⟨hs.1,by simp,fun a ha b hb e=>by
      rw [List.mem_singleton.1 hb] at e
      exact hns (e▸ha)⟩,fun a ha=>by
      rcases List.mem_append.1 ha with ha | ha
      · exact hs.2 a ha
      · rw [List.mem_singleton.1 ha];exact List.mem_map_of_mem (f:=fun e:Value × TV × Nat=>e.2.2) hm⟩
    simp only [hlast,Option.getD_some]
    refine ⟨.ent _ rfl rfl ?_,trivial, ?_,rfl,rfl, ?_⟩
    · show kf _ (.ptr 5 0)=_
      simp only [kf,List.getElem?_cons_succ,List.getElem?_cons_zero,hlast,Nat.beq_refl,cond_true,hfind]
      rfl
    · have ha:=Dc [.map ⟨true, [.int .u32, .int .i64]⟩ lk es ck, .cells [.map 0], .cells [xP (seen.map (cQ es))], .defd, .loop .busy none C9 #[7] eS dI, .iter (.map 0) ck (seen++ [s]) ck, .cells (au (cQ es s)), .cells (au (cQ es s))] (seen.map (cQ es)) (cQ es s) (by simp only [List.length_map];omega)
      rw [show seen.map (cQ es)++ [cQ es s]=(seen++ [s]).map (cQ es) by simp] at ha
      exact ha
    · refine ⟨seen++ [s],hi2, ?_, .inr ⟨?_,rfl⟩⟩
      · have:=hi2.le
        simp only [List.length_append,List.length_cons,List.length_nil] at this ⊢
        omega
      · have hk:=ym h (seen++ [s]) [.cells (au (cQ es s)), .cells (au (cQ es s))]
        have hx:xP ((seen++ [s]).map (cQ es))= .vec 2 (((seen++ [s]).map (cQ es)).map au) (.tail 0 ((seen++ [s]).map (cQ es)).length):=by
          rw [List.map_append];exact yk _ _
        unfold od at hk ⊢
        rw [hx] at hk ⊢
        exact hk
theorem De (h:MkOk lk es ck):VCx Try.prog ae 0 ed [.yld 4, .ptr 1 0] (tg lk es ck) fun x T' =>x= .tup []∧∃(y:TV) (tl:bF),mN es y tl∧T' =⟨(tg lk es ck).objs.set 2 (.cells [y]),tl⟩:=by
 refine VCx.keepQ 5 1 (Nat.le_refl _) (Nat.zero_le _) (ak ac aa ag (bP fun p hp=> ?_) (E5 lk es ck _) ?_)
 ·obtain rfl:=List.mem_singleton.1 hp
  exact cJ fun K hK=>BZ h K hK
 ·refine ⟨rfl,⟨rfl,rfl,rfl,trivial,rfl,rfl,rfl⟩,fun x tl seen hk=>⟨rfl,x,tl,hk, ?_⟩⟩
  obtain ⟨l,_,rfl,rfl⟩:=hk
  have e:=h.ren (am 5) (am 1)
  have e2:(tP l).take 1=tP l:=List.take_of_length_le (kE _)
  unfold kP at e
  simp only [VT.keep,tg,List.take_succ_cons,List.take_zero,List.map_cons,List.map_nil,e,e2,kP]
  simp only [VO.ren,ar,pc]
  rfl
theorem Df:∀ro ys T K,Db es ro ys T K→VCx Try.prog ae ro ed ys T K:=by
 intro ro ys T K h
 unfold Db at h
 split at h
 ·obtain ⟨⟨rfl,lk,ck,hm,rfl⟩,hk⟩:=h
  refine (De hm).mono ?_
  rintro x T' ⟨rfl,y,tl,hy,rfl⟩
  exact hk y tl hy
 ·exact h.elim
theorem Dg (h:MkOk lk es ck):VCx Try.prog ae 0 tf [.fn (.func ed) [] [.ptr 1 0]] ⟨[.map kP lk es ck, .cells [.map 0]], []⟩ fun x T' =>∃l:List Px,l.Perm (kD es)∧TVle x (.vec 2 (l.map au) .none)∧T' =⟨[.map kP lk es ck, .cells [.map 0]], []⟩:=by
 refine VCx.keepQ 2 0 (Nat.le_refl _) (Nat.le_refl _) (ak ac aa (aV fun p hp=> ?_) ah (E4 lk es ck _) ?_)
 ·obtain rfl:=List.mem_singleton.1 hp
  exact Df
 ·refine ⟨⟨rfl,lk,ck,h,rfl⟩,fun x tl hk=> ?_⟩
  obtain ⟨l,hl,rfl,rfl⟩:=hk
  refine ⟨l,hl, ?_, ?_⟩
  ·show TVle ((xP l).ren _ _) _
   cases l with
   | nil=>exact TVle.nil 2
   | cons p l=>
    simp only [xP,TV.ren,dR]
    exact TVle.vec 2 _ _
  ·have e:=h.ren (am 2) (am 0)
   unfold kP at e
   simp only [VT.keep,List.take_succ_cons,List.take_zero,List.map_cons,List.map_nil,e,kP]
   rfl
end
end
section
open Go.RowKit

abbrev bG:=Value→Option TV
abbrev bv:=List (Value × TV × Nat)
def Dh (x:Bs):Prop:=∃l:List Int,x=iV l∧l.length≤2000000
abbrev aj:=Px × AtV
def gz (a:AtV):TV:= .agg a.cells
def eU (p:Px) (a:AtV) (g:Bool):Bool:=fh p.1 p.2&&bif g then decide (a=cK) else cD a
def Di (l:List TV) (ok:Bool):Prop:=∃(p:Px) (a:AtV) (g:Bool),l= [.val (.int .u32 p.1), .val (.int .i64 p.2)]++a.cells++ [.val (.bool g)]∧a.p.length≤9223372036854775807∧ok=eU p a g
def ay (W:List aj) (p:Px):Option AtV:=(W.find? fun r=>decide (r.1=p)).map (·.2)
structure TbOk (W:List aj) (lk:bG) (es:bv) (ck:Nat):Prop where
 srt:W.Pairwise fun r s=>bL r.1 s.1
 look:∀p,lk (bH p)=(ay W p).map gz
 lren:∀k x,lk k=some x→∀f g,x.ren f g=x
 ents:∀e∈es,∃r∈W,e.1=bH r.1∧e.2.1=gz r.2
 all:∀r∈W,bH r.1∈es.map (·.1)
 kn:(es.map (·.1)).Nodup
 born:∀e∈es,e.2.2<ck
 borns:(es.map (·.2.2)).Nodup
 few:W.length≤1000
 okp:∀r∈W,r.2.p.length≤2000000
def Az (sh:KS) (lk:bG) (es:bv) (ck:Nat) (a n:Int) (y:AtV) (b:Bool):Prop:=∃W,sh=kP∧TbOk W lk es ck∧y=(ay W (a,n)).getD cK∧b=(ay W (a,n)).isSome
def ly (l:List TV):Prop:=∃a:AtV,l=a.cells∧a.p.length≤2000000
abbrev tj:=78
abbrev iv:=44
abbrev tp:=42
abbrev yn:=43
abbrev u9:=32
abbrev va:=34
abbrev pf:=13
abbrev yp:=38
abbrev q8:=12
abbrev yq:=16
abbrev yr:=15
def yu:aQ:=fun _ ys T K=>match ys with
 | [.vec 1 p _]=>Dh p∧K (.vec 1 p .none) T
 | [.val (.slice none 0 0)]=>K (.vec 1 [] .none) T
 | _=>ap 84 default ys
def kF:aQ:=fun _ ys T K=>match ys with
 | [.agg [x0, .vec 1 p _,x2,x3,x4]]=>ly [x0, .vec 1 p .none,x2,x3,x4]∧K (.agg [x0, .vec 1 p .none,x2,x3,x4]) T
 | [.agg [x0, .val (.slice none 0 0),x2,x3,x4]]=>ly [x0, .vec 1 [] .none,x2,x3,x4]∧K (.agg [x0, .vec 1 [] .none,x2,x3,x4]) T
 | _=>ap 84 default ys
def yv (y:AtV) (b:Bool):aQ:=fun ro ys T K=>match ys with
 | [.map m, .agg [.val (.int .u32 a), .val (.int .i64 n)]]=>match T.objs[m]? with
  | some (.map sh lk es ck)=>((@Eq Bool (Nat.ble ro m) true)∧Az sh lk es ck a n y b)∧K (.tup [.agg y.cells, .val (.bool b)]) T
  | _=>ap 85 default ys
 | _=>ap 84 default ys
def A3 (ok:Bool):aQ:=fun _ ys T K=>match ys with
 | [.agg l]=>Di l ok∧K (.val (.bool ok)) T
 | _=>ap 84 default ys
def dy (a n:Int):TV:= .agg [.val (.int .u32 a), .val (.int .i64 n)]
def dc (lk lk2:bG) (es es2:bv) (ck ck2:Nat):VT:=⟨[.cells [.map 1, .map 2], .map kP lk es ck, .map kP lk2 es2 ck2], []⟩
def fm (a n:Int) (x:AtV) (g:Bool):List TV:= [.val (.int .u32 a), .val (.int .i64 n)]++x.cells++ [.val (.bool g)]
theorem Dj (Q:TV→VT→Prop):an Try.prog ae aO aK 300 aE 0 tj [.vec 1 [] .none] ⟨[], []⟩ Q=
 (Q (.val (.slice .none 0 0)) ⟨[], []⟩∧
 Q (.vec 1 [] .full) ⟨[], []⟩):=by kernel_rfl
theorem Dk (q:List TV) (qs:Bs) (n:Nat) (Q:TV→VT→Prop):an Try.prog ae aO (aH [(7, .vec 1 (q::qs) (.tail 0 n),some fun T=>{T with tails:= [(n,1,false)]})]) 300 aE 0 tj [.vec 1 (q::qs) .none] ⟨[], []⟩ Q=
 (bE Try.prog (fun _=> .none) 0 ⟨[], []⟩ (.call ⟨(.builtin .append), #[(.tmp 5),(.tmp 6)], #[30,30]⟩) [(5,(.vec 1 [] .full)),(6,(.vec 1 ([(q)]++qs) .none))] (.vec 1 ([(q)]++qs) (.tail 0 (n))) ⟨[], [((n),(1,false))]⟩∧
 Q (.vec 1 ([(q)]++qs) (.tail 0 (n))) ⟨[], [((n),(1,false))]⟩):=by kernel_rfl
theorem E6 (x:AtV) (Q:TV→VT→Prop):an Try.prog ae (aG [(tj,yu)]) (aH [(999998, .dead,none)]) 300 aE 0 iv [.agg x.cells] ⟨[], []⟩ Q=
 (Dh (iV (AtV.p x))∧
 Q (.agg [(.val (.int .i64 (AtV.o x))),(.vec 1 (iV (AtV.p x)) .none),(.val (.int .u32 (AtV.h x))),(.val (.int .i64 (AtV.m x))),(.val (.bool (AtV.hm x)))]) ⟨[(.cells [(.val (.int .i64 (AtV.o x))),(.vec 1 (iV (AtV.p x)) .none),(.val (.int .u32 (AtV.h x))),(.val (.int .i64 (AtV.m x))),(.val (.bool (AtV.hm x)))]),(.cells [(.val (.int .i64 (AtV.o x))),(.vec 1 (iV (AtV.p x)) .none),(.val (.int .u32 (AtV.h x))),(.val (.int .i64 (AtV.m x))),(.val (.bool (AtV.hm x)))])], []⟩):=by kernel_rfl
theorem Dl (o h m:Int) (hm:Bool) (Q:TV→VT→Prop):an Try.prog ae (aG [(tj,yu)]) (aH [(999998, .dead,none)]) 300 aE 0 iv [.agg [.val (.int .i64 o), .val (.slice none 0 0), .val (.int .u32 h), .val (.int .i64 m), .val (.bool hm)]] ⟨[], []⟩ Q=
Q (.agg [(.val (.int .i64 (o))),(.vec 1 [] .none),(.val (.int .u32 (h))),(.val (.int .i64 (m))),(.val (.bool (hm)))]) ⟨[(.cells [(.val (.int .i64 (o))),(.vec 1 [] .none),(.val (.int .u32 (h))),(.val (.int .i64 (m))),(.val (.bool (hm)))]),(.cells [(.val (.int .i64 (o))),(.vec 1 [] .none),(.val (.int .u32 (h))),(.val (.int .i64 (m))),(.val (.bool (hm)))])], []⟩:=by kernel_rfl
theorem E7 (lk:bG) (es:bv) (ck:Nat) (a n:Int) (x:AtV) (b:Bool) (Q:TV→VT→Prop):an Try.prog ae (aG [(iv,kF)]) (aH [(999998, .dead,none),(11, .tup [.agg x.cells, .val (.bool b)],some fun T=>T)]) 300 aE 0 tp [.map 0,dy a n] ⟨[.map kP lk es ck], []⟩ Q=
 (bE Try.prog (fun _=> .none) 0 ⟨[(.map ⟨true, [(.int .u32),(.int .i64)]⟩ (lk) (es) (ck)),(.cells [(.val (.int .u32 (a))),(.val (.int .i64 (n)))]),(.cells [(.val (.int .i64 0)),(.val (.slice .none 0 0)),(.val (.int .u32 0)),(.val (.int .i64 0)),(.val (.bool false))])], []⟩ (.lookup 73 (.tmp 9) (.tmp 10) true) [(9,(.map 0)),(10,(.agg [(.val (.int .u32 (a))),(.val (.int .i64 (n)))]))] (.tup [(.agg [(.val (.int .i64 (AtV.o x))),(.vec 1 (iV (AtV.p x)) .none),(.val (.int .u32 (AtV.h x))),(.val (.int .i64 (AtV.m x))),(.val (.bool (AtV.hm x)))]),(.val (.bool (b)))]) ⟨[(.map ⟨true, [(.int .u32),(.int .i64)]⟩ (lk) (es) (ck)),(.cells [(.val (.int .u32 (a))),(.val (.int .i64 (n)))]),(.cells [(.val (.int .i64 0)),(.val (.slice .none 0 0)),(.val (.int .u32 0)),(.val (.int .i64 0)),(.val (.bool false))])], []⟩∧
 (ly [(.val (.int .i64 (AtV.o x))),(.vec 1 (iV (AtV.p x)) .none),(.val (.int .u32 (AtV.h x))),(.val (.int .i64 (AtV.m x))),(.val (.bool (AtV.hm x)))]∧
 Q (.tup [(.agg [(.val (.int .i64 (AtV.o x))),(.vec 1 (iV (AtV.p x)) .none),(.val (.int .u32 (AtV.h x))),(.val (.int .i64 (AtV.m x))),(.val (.bool (AtV.hm x)))]),(.val (.bool (b)))]) ⟨[(.map ⟨true, [(.int .u32),(.int .i64)]⟩ (lk) (es) (ck)),(.cells [(.val (.int .u32 (a))),(.val (.int .i64 (n)))]),(.cells [(.val (.int .i64 (AtV.o x))),(.vec 1 (iV (AtV.p x)) .none),(.val (.int .u32 (AtV.h x))),(.val (.int .i64 (AtV.m x))),(.val (.bool (AtV.hm x)))]),(.cells [(.val (.int .i64 (AtV.o x))),(.vec 1 (iV (AtV.p x)) .none),(.val (.int .u32 (AtV.h x))),(.val (.int .i64 (AtV.m x))),(.val (.bool (AtV.hm x)))])], []⟩)):=by kernel_rfl
theorem Dm (lk:bG) (es:bv) (ck:Nat) (a n:Int) (Q:TV→VT→Prop):an Try.prog ae (aG [(iv,kF)]) (aH [(999998, .dead,none),(11, .tup [.agg [.val (.int .i64 0), .val (.slice none 0 0), .val (.int .u32 0), .val (.int .i64 0), .val (.bool false)], .val (.bool false)],some fun T=>T)]) 300 aE 0 tp [.map 0,dy a n] ⟨[.map kP lk es ck], []⟩ Q=
 (bE Try.prog (fun _=> .none) 0 ⟨[(.map ⟨true, [(.int .u32),(.int .i64)]⟩ (lk) (es) (ck)),(.cells [(.val (.int .u32 (a))),(.val (.int .i64 (n)))]),(.cells [(.val (.int .i64 0)),(.val (.slice .none 0 0)),(.val (.int .u32 0)),(.val (.int .i64 0)),(.val (.bool false))])], []⟩ (.lookup 73 (.tmp 9) (.tmp 10) true) [(9,(.map 0)),(10,(.agg [(.val (.int .u32 (a))),(.val (.int .i64 (n)))]))] (.tup [(.agg [(.val (.int .i64 0)),(.val (.slice .none 0 0)),(.val (.int .u32 0)),(.val (.int .i64 0)),(.val (.bool false))]),(.val (.bool false))]) ⟨[(.map ⟨true, [(.int .u32),(.int .i64)]⟩ (lk) (es) (ck)),(.cells [(.val (.int .u32 (a))),(.val (.int .i64 (n)))]),(.cells [(.val (.int .i64 0)),(.val (.slice .none 0 0)),(.val (.int .u32 0)),(.val (.int .i64 0)),(.val (.bool false))])], []⟩∧
 (ly [(.val (.int .i64 0)),(.vec 1 [] .none),(.val (.int .u32 0)),(.val (.int .i64 0)),(.val (.bool false))]∧
 Q (.tup [(.agg [(.val (.int .i64 0)),(.vec 1 [] .none),(.val (.int .u32 0)),(.val (.int .i64 0)),(.val (.bool false))]),(.val (.bool false))]) ⟨[(.map ⟨true, [(.int .u32),(.int .i64)]⟩ (lk) (es) (ck)),(.cells [(.val (.int .u32 (a))),(.val (.int .i64 (n)))]),(.cells [(.val (.int .i64 0)),(.vec 1 [] .none),(.val (.int .u32 0)),(.val (.int .i64 0)),(.val (.bool false))]),(.cells [(.val (.int .i64 0)),(.val (.slice .none 0 0)),(.val (.int .u32 0)),(.val (.int .i64 0)),(.val (.bool false))])], []⟩)):=by kernel_rfl
theorem E8 (a n:Int) (x:AtV) (g ok ok2:Bool) (Q:TV→VT→Prop):an Try.prog ae (aG [(qU,s6),(qT,sZ ok),(nH,A1 ok2)]) (aH [(999998, .dead,none)]) 300 aE 0 yn [.agg (fm a n x g)] ⟨[], []⟩ Q=
 (bif g
 then (bif fh a n
 then (wE [(.val (.int .i64 (AtV.o x))),(.vec 1 (iV (AtV.p x)) .none),(.val (.int .u32 (AtV.h x))),(.val (.int .i64 (AtV.m x))),(.val (.bool (AtV.hm x)))] [(.val (.int .i64 0)),(.val (.slice .none 0 0)),(.val (.int .u32 0)),(.val (.int .i64 0)),(.val (.bool false))] (ok2)∧
 Q (.val (.bool (ok2))) ⟨[(.cells [(.val (.int .u32 (a))),(.val (.int .i64 (n))),(.val (.int .i64 (AtV.o x))),(.vec 1 (iV (AtV.p x)) .none),(.val (.int .u32 (AtV.h x))),(.val (.int .i64 (AtV.m x))),(.val (.bool (AtV.hm x))),(.val (.bool (g)))])], []⟩)
 else Q (.val (.bool false)) ⟨[(.cells [(.val (.int .u32 (a))),(.val (.int .i64 (n))),(.val (.int .i64 (AtV.o x))),(.vec 1 (iV (AtV.p x)) .none),(.val (.int .u32 (AtV.h x))),(.val (.int .i64 (AtV.m x))),(.val (.bool (AtV.hm x))),(.val (.bool (g)))])], []⟩)
 else (bif fh a n
 then (n7 [(.val (.int .i64 (AtV.o x))),(.vec 1 (iV (AtV.p x)) .none),(.val (.int .u32 (AtV.h x))),(.val (.int .i64 (AtV.m x))),(.val (.bool (AtV.hm x)))] (ok)∧
 Q (.val (.bool (ok))) ⟨[(.cells [(.val (.int .u32 (a))),(.val (.int .i64 (n))),(.val (.int .i64 (AtV.o x))),(.vec 1 (iV (AtV.p x)) .none),(.val (.int .u32 (AtV.h x))),(.val (.int .i64 (AtV.m x))),(.val (.bool (AtV.hm x))),(.val (.bool (g)))])], []⟩)
 else Q (.val (.bool false)) ⟨[(.cells [(.val (.int .u32 (a))),(.val (.int .i64 (n))),(.val (.int .i64 (AtV.o x))),(.vec 1 (iV (AtV.p x)) .none),(.val (.int .u32 (AtV.h x))),(.val (.int .i64 (AtV.m x))),(.val (.bool (AtV.hm x))),(.val (.bool (g)))])], []⟩)):=by kernel_rfl
theorem E9 (lk lk2:bG) (es es2:bv) (ck ck2:Nat) (a n:Int) (x y:AtV) (ok:Bool) (Q:TV→VT→Prop):an Try.prog ae (aG [(qU,s6),(qT,sZ ok),(iv,kF)]) (aH [(999998, .dead,none),(28, .tup [.agg y.cells, .val (.bool true)],none)]) 300 aE 0 u9 [.ptr 0 0,dy a n, .agg x.cells] (dc lk lk2 es es2 ck ck2) Q=
 (bif !fh a n
 then Q (.val (.int .i64 2)) ⟨[(.cells [(.map 1),(.map 2)]),(.map ⟨true, [(.int .u32),(.int .i64)]⟩ (lk) (es) (ck)),(.map ⟨true, [(.int .u32),(.int .i64)]⟩ (lk2) (es2) (ck2)),(.cells [(.val (.int .u32 (a))),(.val (.int .i64 (n)))]),(.cells [(.val (.int .i64 (AtV.o x))),(.vec 1 (iV (AtV.p x)) .none),(.val (.int .u32 (AtV.h x))),(.val (.int .i64 (AtV.m x))),(.val (.bool (AtV.hm x)))])], []⟩
 else (n7 [(.val (.int .i64 (AtV.o x))),(.vec 1 (iV (AtV.p x)) .none),(.val (.int .u32 (AtV.h x))),(.val (.int .i64 (AtV.m x))),(.val (.bool (AtV.hm x)))] (ok)∧
 (bif !ok
 then Q (.val (.int .i64 2)) ⟨[(.cells [(.map 1),(.map 2)]),(.map ⟨true, [(.int .u32),(.int .i64)]⟩ (lk) (es) (ck)),(.map ⟨true, [(.int .u32),(.int .i64)]⟩ (lk2) (es2) (ck2)),(.cells [(.val (.int .u32 (a))),(.val (.int .i64 (n)))]),(.cells [(.val (.int .i64 (AtV.o x))),(.vec 1 (iV (AtV.p x)) .none),(.val (.int .u32 (AtV.h x))),(.val (.int .i64 (AtV.m x))),(.val (.bool (AtV.hm x)))])], []⟩
 else (iD Try.prog ⟨[(.cells [(.map 1),(.map 2)]),(.map ⟨true, [(.int .u32),(.int .i64)]⟩ (lk) (es) (ck)),(.map ⟨true, [(.int .u32),(.int .i64)]⟩ (lk2) (es2) (ck2)),(.cells [(.val (.int .u32 (a))),(.val (.int .i64 (n)))]),(.cells [(.val (.int .i64 (AtV.o x))),(.vec 1 (iV (AtV.p x)) .none),(.val (.int .u32 (AtV.h x))),(.val (.int .i64 (AtV.m x))),(.val (.bool (AtV.hm x)))])], []⟩ 73 (.map 1) (.agg [(.val (.int .u32 (a))),(.val (.int .i64 (n)))]) true (.tup [(.agg [(.val (.int .i64 (AtV.o y))),(.vec 1 (iV (AtV.p y)) .none),(.val (.int .u32 (AtV.h y))),(.val (.int .i64 (AtV.m y))),(.val (.bool (AtV.hm y)))]),(.val (.bool true))])∧
 (ly [(.val (.int .i64 (AtV.o x))),(.vec 1 (iV (AtV.p x)) .none),(.val (.int .u32 (AtV.h x))),(.val (.int .i64 (AtV.m x))),(.val (.bool (AtV.hm x)))]∧
 (((@Eq (Option TV) (.some (.agg [(.val (.int .i64 (AtV.o x))),(.vec 1 (iV (AtV.p x)) .none),(.val (.int .u32 (AtV.h x))),(.val (.int .i64 (AtV.m x))),(.val (.bool (AtV.hm x)))])) (.some (.agg [(.val (.int .i64 (AtV.o x))),(.vec 1 (iV (AtV.p x)) .none),(.val (.int .u32 (AtV.h x))),(.val (.int .i64 (AtV.m x))),(.val (.bool (AtV.hm x)))])))∧
 ((@Eq (Option TV) (.some (.agg [(.val (.int .u32 (a))),(.val (.int .i64 (n)))])) (.some (.agg [(.val (.int .u32 (a))),(.val (.int .i64 (n)))])))∧
 ((@Eq (Option TV) (.some (.map 1)) (.some (.map 1)))∧
 True)))∧
 Q (.val (.int .i64 0)) ⟨[(.cells [(.map 1),(.map 2)]),(.map ⟨true, [(.int .u32),(.int .i64)]⟩ (fun kk=>(bif ai ((fun vs=>Value.agg (List.toArray vs)) ((fun x=>Value.int IntKind.u32 a::x) ((fun x=>Value.int IntKind.i64 n::x) []))) kk then (.some (.agg [(.val (.int .i64 (AtV.o x))),(.vec 1 (iV (AtV.p x)) .none),(.val (.int .u32 (AtV.h x))),(.val (.int .i64 (AtV.m x))),(.val (.bool (AtV.hm x)))])) else (lk kk))) (bJ (.agg #[(.int .u32 (a)),(.int .i64 (n))]) (.agg [(.val (.int .i64 (AtV.o x))),(.vec 1 (iV (AtV.p x)) .none),(.val (.int .u32 (AtV.h x))),(.val (.int .i64 (AtV.m x))),(.val (.bool (AtV.hm x)))]) (ck) (es)) (match lk ((fun vs=>Value.agg (List.toArray vs)) ((fun x=>Value.int IntKind.u32 a::x) ((fun x=>Value.int IntKind.i64 n::x) []))) with
| some val=>ck
| none=>ck+(1:Nat))),(.map ⟨true, [(.int .u32),(.int .i64)]⟩ (lk2) (es2) (ck2)),(.cells [(.val (.int .u32 (a))),(.val (.int .i64 (n)))]),(.cells [(.val (.int .i64 (AtV.o x))),(.vec 1 (iV (AtV.p x)) .none),(.val (.int .u32 (AtV.h x))),(.val (.int .i64 (AtV.m x))),(.val (.bool (AtV.hm x)))]),(.cells [(.val (.int .i64 (AtV.o y))),(.vec 1 (iV (AtV.p y)) .none),(.val (.int .u32 (AtV.h y))),(.val (.int .i64 (AtV.m y))),(.val (.bool (AtV.hm y)))])], []⟩)))))):=by kernel_rfl
theorem Dn (lk lk2:bG) (es es2:bv) (ck ck2:Nat) (a n:Int) (x:AtV) (ok:Bool) (Q:TV→VT→Prop):an Try.prog ae (aG [(qU,s6),(qT,sZ ok),(iv,kF)]) (aH [(999998, .dead,none),(28, .tup [.agg [.val (.int .i64 0), .val (.slice none 0 0), .val (.int .u32 0), .val (.int .i64 0), .val (.bool false)], .val (.bool false)],none)]) 300 aE 0 u9 [.ptr 0 0,dy a n, .agg x.cells] (dc lk lk2 es es2 ck ck2) Q=
 (bif !fh a n
 then Q (.val (.int .i64 2)) ⟨[(.cells [(.map 1),(.map 2)]),(.map ⟨true, [(.int .u32),(.int .i64)]⟩ (lk) (es) (ck)),(.map ⟨true, [(.int .u32),(.int .i64)]⟩ (lk2) (es2) (ck2)),(.cells [(.val (.int .u32 (a))),(.val (.int .i64 (n)))]),(.cells [(.val (.int .i64 (AtV.o x))),(.vec 1 (iV (AtV.p x)) .none),(.val (.int .u32 (AtV.h x))),(.val (.int .i64 (AtV.m x))),(.val (.bool (AtV.hm x)))])], []⟩
 else (n7 [(.val (.int .i64 (AtV.o x))),(.vec 1 (iV (AtV.p x)) .none),(.val (.int .u32 (AtV.h x))),(.val (.int .i64 (AtV.m x))),(.val (.bool (AtV.hm x)))] (ok)∧
 (bif !ok
 then Q (.val (.int .i64 2)) ⟨[(.cells [(.map 1),(.map 2)]),(.map ⟨true, [(.int .u32),(.int .i64)]⟩ (lk) (es) (ck)),(.map ⟨true, [(.int .u32),(.int .i64)]⟩ (lk2) (es2) (ck2)),(.cells [(.val (.int .u32 (a))),(.val (.int .i64 (n)))]),(.cells [(.val (.int .i64 (AtV.o x))),(.vec 1 (iV (AtV.p x)) .none),(.val (.int .u32 (AtV.h x))),(.val (.int .i64 (AtV.m x))),(.val (.bool (AtV.hm x)))])], []⟩
 else (iD Try.prog ⟨[(.cells [(.map 1),(.map 2)]),(.map ⟨true, [(.int .u32),(.int .i64)]⟩ (lk) (es) (ck)),(.map ⟨true, [(.int .u32),(.int .i64)]⟩ (lk2) (es2) (ck2)),(.cells [(.val (.int .u32 (a))),(.val (.int .i64 (n)))]),(.cells [(.val (.int .i64 (AtV.o x))),(.vec 1 (iV (AtV.p x)) .none),(.val (.int .u32 (AtV.h x))),(.val (.int .i64 (AtV.m x))),(.val (.bool (AtV.hm x)))])], []⟩ 73 (.map 1) (.agg [(.val (.int .u32 (a))),(.val (.int .i64 (n)))]) true (.tup [(.agg [(.val (.int .i64 0)),(.val (.slice .none 0 0)),(.val (.int .u32 0)),(.val (.int .i64 0)),(.val (.bool false))]),(.val (.bool false))])∧
 (bif decide ((↑(List.length es):Int)≥(1024:Int))
 then Q (.val (.int .i64 6)) ⟨[(.cells [(.map 1),(.map 2)]),(.map ⟨true, [(.int .u32),(.int .i64)]⟩ (lk) (es) (ck)),(.map ⟨true, [(.int .u32),(.int .i64)]⟩ (lk2) (es2) (ck2)),(.cells [(.val (.int .u32 (a))),(.val (.int .i64 (n)))]),(.cells [(.val (.int .i64 (AtV.o x))),(.vec 1 (iV (AtV.p x)) .none),(.val (.int .u32 (AtV.h x))),(.val (.int .i64 (AtV.m x))),(.val (.bool (AtV.hm x)))]),(.cells [(.val (.int .i64 0)),(.val (.slice .none 0 0)),(.val (.int .u32 0)),(.val (.int .i64 0)),(.val (.bool false))])], []⟩
 else (ly [(.val (.int .i64 (AtV.o x))),(.vec 1 (iV (AtV.p x)) .none),(.val (.int .u32 (AtV.h x))),(.val (.int .i64 (AtV.m x))),(.val (.bool (AtV.hm x)))]∧
 (((@Eq (Option TV) (.some (.agg [(.val (.int .i64 (AtV.o x))),(.vec 1 (iV (AtV.p x)) .none),(.val (.int .u32 (AtV.h x))),(.val (.int .i64 (AtV.m x))),(.val (.bool (AtV.hm x)))])) (.some (.agg [(.val (.int .i64 (AtV.o x))),(.vec 1 (iV (AtV.p x)) .none),(.val (.int .u32 (AtV.h x))),(.val (.int .i64 (AtV.m x))),(.val (.bool (AtV.hm x)))])))∧
 ((@Eq (Option TV) (.some (.agg [(.val (.int .u32 (a))),(.val (.int .i64 (n)))])) (.some (.agg [(.val (.int .u32 (a))),(.val (.int .i64 (n)))])))∧
 ((@Eq (Option TV) (.some (.map 1)) (.some (.map 1)))∧
 True)))∧
 Q (.val (.int .i64 0)) ⟨[(.cells [(.map 1),(.map 2)]),(.map ⟨true, [(.int .u32),(.int .i64)]⟩ (fun kk=>(bif ai ((fun vs=>Value.agg (List.toArray vs)) ((fun x=>Value.int IntKind.u32 a::x) ((fun x=>Value.int IntKind.i64 n::x) []))) kk then (.some (.agg [(.val (.int .i64 (AtV.o x))),(.vec 1 (iV (AtV.p x)) .none),(.val (.int .u32 (AtV.h x))),(.val (.int .i64 (AtV.m x))),(.val (.bool (AtV.hm x)))])) else (lk kk))) (bJ (.agg #[(.int .u32 (a)),(.int .i64 (n))]) (.agg [(.val (.int .i64 (AtV.o x))),(.vec 1 (iV (AtV.p x)) .none),(.val (.int .u32 (AtV.h x))),(.val (.int .i64 (AtV.m x))),(.val (.bool (AtV.hm x)))]) (ck) (es)) (match lk ((fun vs=>Value.agg (List.toArray vs)) ((fun x=>Value.int IntKind.u32 a::x) ((fun x=>Value.int IntKind.i64 n::x) []))) with
| some val=>ck
| none=>ck+(1:Nat))),(.map ⟨true, [(.int .u32),(.int .i64)]⟩ (lk2) (es2) (ck2)),(.cells [(.val (.int .u32 (a))),(.val (.int .i64 (n)))]),(.cells [(.val (.int .i64 (AtV.o x))),(.vec 1 (iV (AtV.p x)) .none),(.val (.int .u32 (AtV.h x))),(.val (.int .i64 (AtV.m x))),(.val (.bool (AtV.hm x)))]),(.cells [(.val (.int .i64 0)),(.val (.slice .none 0 0)),(.val (.int .u32 0)),(.val (.int .i64 0)),(.val (.bool false))])], []⟩))))))):=by kernel_rfl
theorem Fa (lk lk2:bG) (es es2:bv) (ck ck2:Nat) (a n:Int) (y:AtV) (Q:TV→VT→Prop):an Try.prog ae aO (aH [(999998, .dead,none),(16, .tup [.agg y.cells, .val (.bool true)],none)]) 300 aE 0 va [.ptr 0 0,dy a n] (dc lk lk2 es es2 ck ck2) Q=
 (iD Try.prog ⟨[(.cells [(.map 1),(.map 2)]),(.map ⟨true, [(.int .u32),(.int .i64)]⟩ (lk) (es) (ck)),(.map ⟨true, [(.int .u32),(.int .i64)]⟩ (lk2) (es2) (ck2)),(.cells [(.val (.int .u32 (a))),(.val (.int .i64 (n)))])], []⟩ 73 (.map 1) (.agg [(.val (.int .u32 (a))),(.val (.int .i64 (n)))]) true (.tup [(.agg [(.val (.int .i64 (AtV.o y))),(.vec 1 (iV (AtV.p y)) .none),(.val (.int .u32 (AtV.h y))),(.val (.int .i64 (AtV.m y))),(.val (.bool (AtV.hm y)))]),(.val (.bool true))])∧
 Q (.val (.bool true)) ⟨[(.cells [(.map 1),(.map 2)]),(.map ⟨true, [(.int .u32),(.int .i64)]⟩ (fun kk=>(bif ai ((fun vs=>Value.agg (List.toArray vs)) ((fun x=>Value.int IntKind.u32 a::x) ((fun x=>Value.int IntKind.i64 n::x) []))) kk then .none else (lk kk))) (dg ((fun vs=>Value.agg (List.toArray vs)) ((fun x=>Value.int IntKind.u32 a::x) ((fun x=>Value.int IntKind.i64 n::x) []))) es) (ck)),(.map ⟨true, [(.int .u32),(.int .i64)]⟩ (lk2) (es2) (ck2)),(.cells [(.val (.int .u32 (a))),(.val (.int .i64 (n)))]),(.cells [(.val (.int .i64 (AtV.o y))),(.vec 1 (iV (AtV.p y)) .none),(.val (.int .u32 (AtV.h y))),(.val (.int .i64 (AtV.m y))),(.val (.bool (AtV.hm y)))])], []⟩):=by kernel_rfl
theorem Do (lk lk2:bG) (es es2:bv) (ck ck2:Nat) (a n:Int) (Q:TV→VT→Prop):an Try.prog ae aO (aH [(999998, .dead,none),(16, .tup [.agg [.val (.int .i64 0), .val (.slice none 0 0), .val (.int .u32 0), .val (.int .i64 0), .val (.bool false)], .val (.bool false)],none)]) 300 aE 0 va [.ptr 0 0,dy a n] (dc lk lk2 es es2 ck ck2) Q=
 (iD Try.prog ⟨[(.cells [(.map 1),(.map 2)]),(.map ⟨true, [(.int .u32),(.int .i64)]⟩ (lk) (es) (ck)),(.map ⟨true, [(.int .u32),(.int .i64)]⟩ (lk2) (es2) (ck2)),(.cells [(.val (.int .u32 (a))),(.val (.int .i64 (n)))])], []⟩ 73 (.map 1) (.agg [(.val (.int .u32 (a))),(.val (.int .i64 (n)))]) true (.tup [(.agg [(.val (.int .i64 0)),(.val (.slice .none 0 0)),(.val (.int .u32 0)),(.val (.int .i64 0)),(.val (.bool false))]),(.val (.bool false))])∧
 Q (.val (.bool false)) ⟨[(.cells [(.map 1),(.map 2)]),(.map ⟨true, [(.int .u32),(.int .i64)]⟩ (fun kk=>(bif ai ((fun vs=>Value.agg (List.toArray vs)) ((fun x=>Value.int IntKind.u32 a::x) ((fun x=>Value.int IntKind.i64 n::x) []))) kk then .none else (lk kk))) (dg ((fun vs=>Value.agg (List.toArray vs)) ((fun x=>Value.int IntKind.u32 a::x) ((fun x=>Value.int IntKind.i64 n::x) []))) es) (ck)),(.map ⟨true, [(.int .u32),(.int .i64)]⟩ (lk2) (es2) (ck2)),(.cells [(.val (.int .u32 (a))),(.val (.int .i64 (n)))]),(.cells [(.val (.int .i64 0)),(.val (.slice .none 0 0)),(.val (.int .u32 0)),(.val (.int .i64 0)),(.val (.bool false))])], []⟩):=by kernel_rfl
theorem Fb (lk lk2:bG) (es es2:bv) (ck ck2:Nat) (a n:Int) (x:AtV) (g ok:Bool) (Q:TV→VT→Prop):an Try.prog ae (aG [(yn,A3 ok),(iv,kF)]) (aH [(999998, .dead,none)]) 300 aE 0 pf [.ptr 0 0, .agg (fm a n x g)] (dc lk lk2 es es2 ck ck2) Q=
 (Di [(.val (.int .u32 (a))),(.val (.int .i64 (n))),(.val (.int .i64 (AtV.o x))),(.vec 1 (iV (AtV.p x)) .none),(.val (.int .u32 (AtV.h x))),(.val (.int .i64 (AtV.m x))),(.val (.bool (AtV.hm x))),(.val (.bool (g)))] (ok)∧
 (bif !ok
 then Q (.val (.int .i64 2)) ⟨[(.cells [(.map 1),(.map 2)]),(.map ⟨true, [(.int .u32),(.int .i64)]⟩ (lk) (es) (ck)),(.map ⟨true, [(.int .u32),(.int .i64)]⟩ (lk2) (es2) (ck2)),(.cells [(.val (.int .u32 (a))),(.val (.int .i64 (n))),(.val (.int .i64 (AtV.o x))),(.vec 1 (iV (AtV.p x)) .none),(.val (.int .u32 (AtV.h x))),(.val (.int .i64 (AtV.m x))),(.val (.bool (AtV.hm x))),(.val (.bool (g)))])], []⟩
 else (bif g
 then Q (.val (.int .i64 0)) ⟨[(.cells [(.map 1),(.map 2)]),(.map ⟨true, [(.int .u32),(.int .i64)]⟩ (lk) (es) (ck)),(.map ⟨true, [(.int .u32),(.int .i64)]⟩ (fun kk=>(bif ai ((fun vs=>Value.agg (List.toArray vs)) ((fun x=>Value.int IntKind.u32 a::x) ((fun x=>Value.int IntKind.i64 n::x) []))) kk then .none else (lk2 kk))) (dg ((fun vs=>Value.agg (List.toArray vs)) ((fun x=>Value.int IntKind.u32 a::x) ((fun x=>Value.int IntKind.i64 n::x) []))) es2) (ck2)),(.cells [(.val (.int .u32 (a))),(.val (.int .i64 (n))),(.val (.int .i64 (AtV.o x))),(.vec 1 (iV (AtV.p x)) .none),(.val (.int .u32 (AtV.h x))),(.val (.int .i64 (AtV.m x))),(.val (.bool (AtV.hm x))),(.val (.bool (g)))])], []⟩
 else (ly [(.val (.int .i64 (AtV.o x))),(.vec 1 (iV (AtV.p x)) .none),(.val (.int .u32 (AtV.h x))),(.val (.int .i64 (AtV.m x))),(.val (.bool (AtV.hm x)))]∧
 (((@Eq (Option TV) (.some (.agg [(.val (.int .i64 (AtV.o x))),(.vec 1 (iV (AtV.p x)) .none),(.val (.int .u32 (AtV.h x))),(.val (.int .i64 (AtV.m x))),(.val (.bool (AtV.hm x)))])) (.some (.agg [(.val (.int .i64 (AtV.o x))),(.vec 1 (iV (AtV.p x)) .none),(.val (.int .u32 (AtV.h x))),(.val (.int .i64 (AtV.m x))),(.val (.bool (AtV.hm x)))])))∧
 ((@Eq (Option TV) (.some (.agg [(.val (.int .u32 (a))),(.val (.int .i64 (n)))])) (.some (.agg [(.val (.int .u32 (a))),(.val (.int .i64 (n)))])))∧
 ((@Eq (Option TV) (.some (.map 2)) (.some (.map 2)))∧
 True)))∧
 Q (.val (.int .i64 0)) ⟨[(.cells [(.map 1),(.map 2)]),(.map ⟨true, [(.int .u32),(.int .i64)]⟩ (lk) (es) (ck)),(.map ⟨true, [(.int .u32),(.int .i64)]⟩ (fun kk=>(bif ai ((fun vs=>Value.agg (List.toArray vs)) ((fun x=>Value.int IntKind.u32 a::x) ((fun x=>Value.int IntKind.i64 n::x) []))) kk then (.some (.agg [(.val (.int .i64 (AtV.o x))),(.vec 1 (iV (AtV.p x)) .none),(.val (.int .u32 (AtV.h x))),(.val (.int .i64 (AtV.m x))),(.val (.bool (AtV.hm x)))])) else (lk2 kk))) (bJ (.agg #[(.int .u32 (a)),(.int .i64 (n))]) (.agg [(.val (.int .i64 (AtV.o x))),(.vec 1 (iV (AtV.p x)) .none),(.val (.int .u32 (AtV.h x))),(.val (.int .i64 (AtV.m x))),(.val (.bool (AtV.hm x)))]) (ck2) (es2)) (match lk2 ((fun vs=>Value.agg (List.toArray vs)) ((fun x=>Value.int IntKind.u32 a::x) ((fun x=>Value.int IntKind.i64 n::x) []))) with
| some val=>ck2
| none=>ck2+(1:Nat))),(.cells [(.val (.int .u32 (a))),(.val (.int .i64 (n))),(.val (.int .i64 (AtV.o x))),(.vec 1 (iV (AtV.p x)) .none),(.val (.int .u32 (AtV.h x))),(.val (.int .i64 (AtV.m x))),(.val (.bool (AtV.hm x))),(.val (.bool (g)))])], []⟩))))):=by kernel_rfl
theorem Fc (lk lk2:bG) (es es2:bv) (ck ck2:Nat) (Q:TV→VT→Prop):an Try.prog ae aO (aH [(999998, .dead,none)]) 300 aE 0 yp [.ptr 0 0] (dc lk lk2 es es2 ck ck2) Q=
Q (.tup []) ⟨[(.cells [(.map 1),(.map 2)]),(.map ⟨true, [(.int .u32),(.int .i64)]⟩ (lk) (es) (ck)),(.map ⟨true, [(.int .u32),(.int .i64)]⟩ (fun _=> .none) [] (ck2))], []⟩:=by kernel_rfl
theorem Fd (lk lk2:bG) (es es2:bv) (ck ck2:Nat) (a n:Int) (y:AtV) (b:Bool) (Q:TV→VT→Prop):an Try.prog ae (aG [(tp,yv y b)]) (aH [(999998, .dead,none)]) 300 aE 0 q8 [.ptr 0 0,dy a n] (dc lk lk2 es es2 ck ck2) Q=
 (((@Eq (Bool) true true)∧
 Az ⟨true, [(.int .u32),(.int .i64)]⟩ (lk) (es) (ck) (a) (n) (y) (b))∧
 Q (.tup [(.agg [(.val (.int .i64 (AtV.o y))),(.vec 1 (iV (AtV.p y)) .none),(.val (.int .u32 (AtV.h y))),(.val (.int .i64 (AtV.m y))),(.val (.bool (AtV.hm y)))]),(.val (.bool (b)))]) ⟨[(.cells [(.map 1),(.map 2)]),(.map ⟨true, [(.int .u32),(.int .i64)]⟩ (lk) (es) (ck)),(.map ⟨true, [(.int .u32),(.int .i64)]⟩ (lk2) (es2) (ck2)),(.cells [(.val (.int .u32 (a))),(.val (.int .i64 (n)))]),(.cells [(.val (.int .i64 (AtV.o y))),(.vec 1 (iV (AtV.p y)) .none),(.val (.int .u32 (AtV.h y))),(.val (.int .i64 (AtV.m y))),(.val (.bool (AtV.hm y)))])], []⟩):=by kernel_rfl
theorem Fe (lk lk2:bG) (es es2:bv) (ck ck2:Nat) (a n:Int) (y:AtV) (b:Bool) (Q:TV→VT→Prop):an Try.prog ae (aG [(tp,yv y b)]) (aH [(999998, .dead,none)]) 300 aE 0 yq [.ptr 0 0,dy a n] (dc lk lk2 es es2 ck ck2) Q=
 (((@Eq (Bool) true true)∧
 Az ⟨true, [(.int .u32),(.int .i64)]⟩ (lk2) (es2) (ck2) (a) (n) (y) (b))∧
 Q (.tup [(.agg [(.val (.int .i64 (AtV.o y))),(.vec 1 (iV (AtV.p y)) .none),(.val (.int .u32 (AtV.h y))),(.val (.int .i64 (AtV.m y))),(.val (.bool (AtV.hm y)))]),(.val (.bool (b)))]) ⟨[(.cells [(.map 1),(.map 2)]),(.map ⟨true, [(.int .u32),(.int .i64)]⟩ (lk) (es) (ck)),(.map ⟨true, [(.int .u32),(.int .i64)]⟩ (lk2) (es2) (ck2)),(.cells [(.val (.int .u32 (a))),(.val (.int .i64 (n)))]),(.cells [(.val (.int .i64 (AtV.o y))),(.vec 1 (iV (AtV.p y)) .none),(.val (.int .u32 (AtV.h y))),(.val (.int .i64 (AtV.m y))),(.val (.bool (AtV.hm y)))])], []⟩):=by kernel_rfl
theorem Ff (lk lk2:bG) (es es2:bv) (ck ck2:Nat) (Q:TV→VT→Prop):an Try.prog ae aO (aH [(999998, .dead,none)]) 300 aE 0 yr [.ptr 0 0] (dc lk lk2 es es2 ck ck2) Q=
Q (.tup [(.val (.int .i64 ((↑(List.length es):Int)))),(.val (.int .i64 ((↑(List.length es2):Int))))]) ⟨[(.cells [(.map 1),(.map 2)]),(.map ⟨true, [(.int .u32),(.int .i64)]⟩ (lk) (es) (ck)),(.map ⟨true, [(.int .u32),(.int .i64)]⟩ (lk2) (es2) (ck2))], []⟩:=by kernel_rfl
end
section
open Go.RowKit

def ax (W:List aj) (p:Px):List aj:=W.filter fun r=> !decide (r.1=p)
def eM (x:aj):List aj→List aj
 | []=> [x]
 | r::l=>if bL x.1 r.1 then x::r::l else r::eM x l
def bN (W:List aj) (x:aj):List aj:=eM x (ax W x.1)
theorem co {W:List aj} {p:Px} {r:aj}:r∈ax W p ↔ r∈W∧r.1≠p:=by
 unfold ax;simp
theorem oe {x r:aj}:∀{l:List aj},r∈eM x l ↔ r=x∨r∈l
 | []=>by simp [eM]
 | a::l=>by
  unfold eM
  split
  ·simp
  ·simp only [List.mem_cons,oe (l:=l)]
   constructor
   ·rintro (h | h | h)
    ·exact .inr (.inl h)
    ·exact .inl h
    ·exact .inr (.inr h)
   ·rintro (h | h | h)
    ·exact .inr (.inl h)
    ·exact .inl h
    ·exact .inr (.inr h)
theorem dJ {W:List aj} {x r:aj}:r∈bN W x ↔ r=x∨(r∈W∧r.1≠x.1):=by
 unfold bN;rw [oe,co]
def b6 (W:List aj):Prop:=W.Pairwise fun r s=>bL r.1 s.1
theorem eL {W:List aj} (h:b6 W) (p:Px):b6 (ax W p):=List.Pairwise.filter _ h
theorem vc {x:aj}:∀{l:List aj},b6 l→(∀r∈l,r.1≠x.1)→b6 (eM x l)
 | [],_,_=>List.pairwise_singleton _ _
 | a::l,h,hn=>by
  unfold eM
  have h1:=List.pairwise_cons.1 h
  split
  ·rename_i hlt
   refine List.pairwise_cons.2 ⟨fun r hr=> ?_,h⟩
   rcases List.mem_cons.1 hr with rfl | hr
   ·exact hlt
   ·exact fH hlt (h1.1 r hr)
  ·rename_i hlt
   refine List.pairwise_cons.2 ⟨fun r hr=> ?_,vc h1.2 fun r hr=>hn r (List.mem_cons_of_mem _ hr)⟩
   rcases oe.1 hr with rfl | hr
   ·exact Classical.byContradiction fun hc=>hn a List.mem_cons_self (lv hc hlt)
   ·exact h1.1 r hr
theorem jq {W:List aj} (h:b6 W) (x:aj):b6 (bN W x):=vc (eL h _) fun r hr=>(co.1 hr).2
theorem B0 {W:List aj} (h:b6 W) {r s:aj} (hr:r∈W) (hs:s∈W) (he:r.1=s.1):r=s:=by
  induction W with
  | nil=>cases hr
  | cons a W ih=>
    have h1:=List.pairwise_cons.1 h
    rcases List.mem_cons.1 hr with e1 | hr1
    · rcases List.mem_cons.1 hs with e2 | hs1
      · rw [e1,e2]
      · have:=h1.1 s hs1
        rw [←e1,he] at this
        exact absurd this (cF _)
    · rcases List.mem_cons.1 hs with e2 | hs1
      · have:=h1.1 r hr1
        rw [←e2,he] at this
        exact absurd this (cF _)
      · exact ih h1.2 hr1 hs1
theorem br {W:List aj} {p:Px} {a:AtV} (h:ay W p=some a):(p,a)∈W:=by
 unfold ay at h
 cases hf:W.find? fun r=>decide (r.1=p) with
 | none=>rw [hf] at h;cases h
 | some r=>
  rw [hf] at h
  have h1:=List.find?_some hf
  have h2:=List.mem_of_find?_eq_some hf
  obtain ⟨q,b⟩:=r
  simp only [decide_eq_true_eq] at h1
  subst h1
  injection h with h
  simp only at h
  subst h
  exact h2
theorem gA {W:List aj} {p:Px} (h:ay W p=none):∀r∈W,r.1≠p:=by
 unfold ay at h
 simp only [Option.map_eq_none_iff,List.find?_eq_none,decide_eq_true_eq] at h
 exact h
theorem di {W:List aj} (hs:b6 W) {p:Px} {a:AtV} (h:(p,a)∈W):ay W p=some a:=by
 cases hf:ay W p with
 | none=>exact absurd rfl (gA hf _ h)
 | some b=>
  have:=B0 hs h (br hf) rfl
  injection this with _ h2
  rw [h2]
theorem pg {W:List aj} (hs:b6 W) (p q:Px) (a:AtV):ay (bN W (p,a)) q=if p=q then some a else ay W q:=by
 have h2:=jq hs (p,a)
 split
 ·rename_i h;subst h
  exact di h2 (dJ.2 (.inl rfl))
 ·rename_i hne
  cases hf:ay W q with
  | some b=>exact di h2 (dJ.2 (.inr ⟨br hf,fun h=>hne h.symm⟩))
  | none=>
   cases hg:ay (bN W (p,a)) q with
   | none=>rfl
   | some b=>
    rcases dJ.1 (br hg) with h | h
    ·injection h with h _;exact absurd h.symm hne
    ·exact absurd rfl (gA hf _ h.1)
theorem lV {W:List aj} (hs:b6 W) (p q:Px):ay (ax W p) q=if p=q then none else ay W q:=by
 split
 ·rename_i h;subst h
  cases hf:ay (ax W p) p with
  | none=>rfl
  | some b=>exact absurd rfl (co.1 (br hf)).2
 ·rename_i hne
  cases hf:ay W q with
  | some b=>exact di (eL hs p) (co.2 ⟨br hf,fun h=>hne h.symm⟩)
  | none=>
   cases hg:ay (ax W p) q with
   | none=>rfl
   | some b=>exact absurd rfl (gA hf _ (co.1 (br hg)).1)
theorem og (x:aj):∀l:List aj,(eM x l).length=l.length+1
 | []=>rfl
 | a::l=>by unfold eM;split<;>simp [og x l]
theorem dS (W:List aj) (p:Px):(ax W p).length≤W.length:=List.length_filter_le _ _
theorem lz (W:List aj) (x:aj):(bN W x).length≤W.length+1:=by
 unfold bN;rw [og];have:=dS W x.1;omega
theorem oh {p q:Px} (h:bH p=bH q):p=q:=by
 have:=congrArg pX h
 simpa [th] using this
theorem hO (p:Px):kP.fits (bH p)=true:=rfl
theorem wH (p q:Px):ai (bH p) (bH q)=decide (p=q):=by
 have h:=bq (hO p) (hO q)
 cases hk:ai (bH p) (bH q) with
 | true=>exact (decide_eq_true (oh (h.1 hk))).symm
 | false=>
  refine (decide_eq_false fun e=> ?_).symm
  rw [h.2 (by rw [e])] at hk;cases hk
theorem q9 {k:Value} {v:TV} {ck:Nat}:∀{es:bv},(bJ k v ck es).map (·.2.2)=es.map (·.2.2)∨(bJ k v ck es).map (·.2.2)=es.map (·.2.2)++ [ck]
  | []=> .inr rfl
  | e::es=>by
    unfold bJ
    cases ai k e.1
    · rcases q9 (k:=k) (v:=v) (ck:=ck) (es:=es) with h | h
      · exact .inl (by simp only [cond_false,List.map_cons,h])
      · exact .inr (by simp only [cond_false,List.map_cons,h,List.cons_append])
    · exact .inl rfl
theorem pi {k:Value} {v:TV} {ck:Nat} {sh:KS} (hk:sh.fits k=true):∀{es:bv},(∀e∈es,sh.fits e.1=true)→k∈es.map (·.1)→(bJ k v ck es).map (·.2.2)=es.map (·.2.2)
  | [],_,h=>by cases h
  | e::es,hf,h=>by
    have hka:=bq hk (hf e List.mem_cons_self)
    unfold bJ
    cases hb:ai k e.1
    · rcases List.mem_cons.1 h with h | h
      · rw [hka.2 h] at hb;cases hb
      · simp only [cond_false,List.map_cons,pi hk (fun e he=>hf e (List.mem_cons_of_mem _ he)) h]
    · rfl
theorem tq {k:Value} {v:TV} {ck:Nat} {sh:KS} (hk:sh.fits k=true):∀{es:bv},(∀e∈es,sh.fits e.1=true)→(es.map (·.1)).Nodup→∀e∈bJ k v ck es,(e.1=k∧e.2.1=v)∨(e∈es∧e.1≠k)
  | [],_,_,e,he=>by
    obtain rfl:=List.mem_singleton.1 he
    exact .inl ⟨rfl,rfl⟩
  | a::es,hf,hn,e,he=>by
    unfold bJ at he
    have hka:=bq hk (hf a List.mem_cons_self)
    cases hb:ai k a.1
    · rw [hb,cond_false] at he
      rcases List.mem_cons.1 he with rfl | he
      · refine .inr ⟨List.mem_cons_self,fun h=> ?_⟩
        rw [hka.2 h.symm] at hb;cases hb
      · rcases tq hk (fun e he=>hf e (List.mem_cons_of_mem _ he)) (List.nodup_cons.1 hn).2 e he with h | h
        · exact .inl h
        · exact .inr ⟨List.mem_cons_of_mem _ h.1,h.2⟩
    · rw [hb,cond_true] at he
      have e1:=hka.1 hb
      rcases List.mem_cons.1 he with rfl | he
      · exact .inl ⟨rfl,rfl⟩
      · refine .inr ⟨List.mem_cons_of_mem _ he,fun h=>(List.nodup_cons.1 hn).1 ?_⟩
        show a.1∈_
        rw [←e1,←h]
        exact List.mem_map_of_mem (f:=fun e:Value × TV × Nat=>e.1) he
theorem ol {k:Value} {sh:KS} (hk:sh.fits k=true):∀{es:bv},(∀e∈es,sh.fits e.1=true)→(es.map (·.1)).Nodup→∀e,e∈dg k es ↔ e∈es∧e.1≠k
  | [],_,_,e=>by simp [dg]
  | a::es,hf,hn,e=>by
    unfold dg
    have hka:=bq hk (hf a List.mem_cons_self)
    have hn2:=List.nodup_cons.1 hn
    cases hb:ai k a.1
    · have hne:a.1≠k:=fun h=>by rw [hka.2 h.symm] at hb;cases hb
      simp only [cond_false,List.mem_cons,ol hk (fun e he=>hf e (List.mem_cons_of_mem _ he)) hn2.2]
      constructor
      · rintro (rfl | h)
        · exact ⟨.inl rfl,hne⟩
        · exact ⟨.inr h.1,h.2⟩
      · rintro ⟨rfl | h,h2⟩
        · exact .inl rfl
        · exact .inr ⟨h,h2⟩
    · have e1:=hka.1 hb
      simp only [cond_true,List.mem_cons]
      constructor
      · intro h
        refine ⟨.inr h,fun h2=>hn2.1 ?_⟩
        show a.1∈_
        rw [←e1,←h2]
        exact List.mem_map_of_mem (f:=fun e:Value × TV × Nat=>e.1) h
      · rintro ⟨rfl | h,h2⟩
        · exact absurd e1.symm h2
        · exact h
section
variable {W:List aj} {lk:bG} {es:bv} {ck:Nat}
theorem gR (a:AtV) (f g:Nat→Option Nat):(gz a).ren f g=gz a:=by
 simp only [gz,AtV.cells,TV.ren,ar,cw,Tok.ren]
theorem TbOk.fits (h:TbOk W lk es ck):∀e∈es,kP.fits e.1=true:=fun e he=>by
 obtain ⟨r,_,h1,_⟩:=h.ents e he
 rw [h1];exact hO _
theorem TbOk.keysP (h:TbOk W lk es ck):(es.map (·.1)).Perm (W.map fun r=>bH r.1):=by
 refine (List.perm_ext_iff_of_nodup h.kn ?_).2 fun k=>⟨fun hk=> ?_,fun hk=> ?_⟩
 ·refine List.Pairwise.map _ (fun a b hab he=> ?_) h.srt
  rw [oh he] at hab
  exact cF _ hab
 ·obtain ⟨e,he,rfl⟩:=List.mem_map.1 hk
  obtain ⟨r,hr,h1,_⟩:=h.ents e he
  rw [h1]
  exact List.mem_map_of_mem (f:=fun r:aj=>bH r.1) hr
 ·obtain ⟨r,hr,rfl⟩:=List.mem_map.1 hk
  exact h.all r hr
theorem TbOk.len (h:TbOk W lk es ck):es.length=W.length:=by
 have:=h.keysP.length_eq
 simpa using this
theorem TbOk.esP (h:TbOk W lk es ck):(kD es).Perm (W.map (·.1)):=by
 have:=h.keysP.map pX
 rw [List.map_map,List.map_map] at this
 exact this
theorem TbOk.ren (h:TbOk W lk es ck) (f g:Nat→Option Nat):VO.ren f g (.map kP lk es ck)= .map kP lk es ck:=by
 have h1:(fun k=>(lk k).map (TV.ren f g))=lk:=by
  funext k
  cases hk:lk k with
  | none=>rfl
  | some x=>simp only [Option.map_some,h.lren k x hk f g]
 have h2:es.map (fun e=>(e.1,e.2.1.ren f g,e.2.2))=es:=by
  conv=>rhs;rw [←List.map_id es]
  refine List.map_congr_left fun e he=> ?_
  obtain ⟨r,_,_,h2⟩:=h.ents e he
  rw [h2,gR,←h2];rfl
 simp only [VO.ren,h1,h2]
theorem TbOk.mk_ok (h:TbOk W lk es ck):MkOk lk es ck where
 keys:=fun e he=>by
  obtain ⟨r,_,h1,_⟩:=h.ents e he
  exact ⟨r.1,h1⟩
 born:=h.born
 borns:=h.borns
 ren:=h.ren
 few:=by have:=h.len;have:=h.few;omega
theorem TbOk.empty (ck:Nat):TbOk [] (fun _=>none) [] ck where
 srt:=List.Pairwise.nil
 look:=fun p=>rfl
 lren:=fun k x h=>by cases h
 ents:=fun e h=>by cases h
 all:=fun r h=>by cases h
 kn:=List.nodup_nil
 born:=fun e h=>by cases h
 borns:=List.nodup_nil
 few:=Nat.zero_le _
 okp:=fun r h=>by cases h
theorem TbOk.born' (h:TbOk W lk es ck) (p:Px) (v:TV) {ck' :Nat} (hc:ck' =match lk (bH p) with
  | some _=>ck
  | none=>ck+1):((bJ (bH p) v ck es).map (·.2.2)=es.map (·.2.2)∧ck≤ck')∨((bJ (bH p) v ck es).map (·.2.2)=es.map (·.2.2)++ [ck]∧ck' =ck+1):=by
 cases hl:lk (bH p) with
 | none=>
  rw [hl] at hc
  subst hc
  rcases q9 (k:=bH p) (v:=v) (ck:=ck) (es:=es) with h1 | h1
  ·exact .inl ⟨h1,Nat.le_succ _⟩
  ·exact .inr ⟨h1,rfl⟩
 | some x=>
  rw [hl] at hc
  subst hc
  refine .inl ⟨pi (hO p) h.fits ?_,Nat.le_refl _⟩
  rw [h.look] at hl
  cases hf:ay W p with
  | none=>rw [hf] at hl;cases hl
  | some a=>exact h.all _ (br hf)
theorem TbOk.put (h:TbOk W lk es ck) (p:Px) (a:AtV) (hl:W.length<1000) (ha:a.p.length≤2000000) {ck' :Nat} (hc:ck' =match lk (bH p) with
  | some _=>ck
  | none=>ck+1):TbOk (bN W (p,a)) (fun k=>bif ai (bH p) k then some (gz a) else lk k) (bJ (bH p) (gz a) ck es) ck' where
 srt:=jq h.srt _
 look:=fun q=>by
  rw [wH,pg h.srt,h.look]
  by_cases e:p=q
  ·simp [e]
  ·simp [e]
 lren:=fun k x hx f g=>by
  cases hk:ai (bH p) k
  ·rw [hk] at hx;exact h.lren k x hx f g
  ·rw [hk] at hx;injection hx with hx;rw [←hx];exact gR _ _ _
 ents:=fun e he=>by
  rcases tq (hO p) h.fits h.kn e he with ⟨h1,h2⟩ | ⟨h1,h2⟩
  ·exact ⟨(p,a),dJ.2 (.inl rfl),h1,h2⟩
  ·obtain ⟨r,hr,k1,k2⟩:=h.ents e h1
   refine ⟨r,dJ.2 (.inr ⟨hr,fun e1=>h2 ?_⟩),k1,k2⟩
   rw [k1,e1]
 all:=fun r hr=>by
  rw [jD (hO p) _ _ h.fits]
  rcases dJ.1 hr with rfl | ⟨hr,_⟩
  ·split
   ·rename_i hm
    refine Classical.byContradiction fun hn=> ?_
    rw [(md (hO p) h.fits).2 hn] at hm;cases hm
   ·exact List.mem_append_right _ List.mem_cons_self
  ·have:=h.all r hr
   split
   ·exact this
   ·exact List.mem_append_left _ this
 kn:=iB (hO p) _ _ h.fits h.kn
 born:=fun e he=>by
  have h1:e.2.2∈(bJ (bH p) (gz a) ck es).map (·.2.2):=List.mem_map_of_mem (f:=fun e:Value × TV × Nat=>e.2.2) he
  have h2:∀b∈es.map (·.2.2),b<ck:=fun b hb=>by
   obtain ⟨e,he,rfl⟩:=List.mem_map.1 hb
   exact h.born e he
  rcases h.born' p (gz a) hc with ⟨hm,hle⟩ | ⟨hm,rfl⟩
  ·rw [hm] at h1;exact Nat.lt_of_lt_of_le (h2 _ h1) hle
  ·rw [hm] at h1
   rcases List.mem_append.1 h1 with h1 | h1
   ·exact Nat.lt_succ_of_lt (h2 _ h1)
   ·rw [List.mem_singleton.1 h1];exact Nat.lt_succ_self _
 borns:=by
  rcases h.born' p (gz a) hc with ⟨hm,_⟩ | ⟨hm,_⟩
  ·rw [hm];exact h.borns
  ·rw [hm]
   refine List.nodup_append.2 ⟨h.borns,by simp,fun b hb c hc e=> ?_⟩
   rw [List.mem_singleton.1 hc] at e
   obtain ⟨x,hx,rfl⟩:=List.mem_map.1 hb
   have:=h.born x hx
   omega
 few:=by have:=lz W (p,a);omega
 okp:=fun r hr=>by
  rcases dJ.1 hr with rfl | ⟨hr,_⟩
  ·exact ha
  ·exact h.okp r hr
theorem TbOk.del (h:TbOk W lk es ck) (p:Px):TbOk (ax W p) (fun k=>bif ai (bH p) k then none else lk k) (dg (bH p) es) ck where
 srt:=eL h.srt _
 look:=fun q=>by
  rw [wH,lV h.srt,h.look]
  by_cases e:p=q
  ·simp [e]
  ·simp [e]
 lren:=fun k x hx f g=>by
  cases hk:ai (bH p) k
  ·rw [hk] at hx;exact h.lren k x hx f g
  ·rw [hk] at hx;cases hx
 ents:=fun e he=>by
  obtain ⟨h1,h2⟩:=(ol (hO p) h.fits h.kn e).1 he
  obtain ⟨r,hr,k1,k2⟩:=h.ents e h1
  refine ⟨r,co.2 ⟨hr,fun e1=>h2 ?_⟩,k1,k2⟩
  rw [k1,e1]
 all:=fun r hr=>by
  obtain ⟨h1,h2⟩:=co.1 hr
  obtain ⟨e,he,k1⟩:=List.mem_map.1 (h.all r h1)
  rw [←k1]
  refine List.mem_map_of_mem (f:=fun e:Value × TV × Nat=>e.1) ((ol (hO p) h.fits h.kn e).2 ⟨he,fun h3=>h2 ?_⟩)
  rw [k1] at h3
  exact oh h3
 kn:=h.kn.sublist ((gG es).map _)
 born:=fun e he=>h.born e ((gG es).subset he)
 borns:=h.borns.sublist ((gG es).map _)
 few:=Nat.le_trans (dS _ _) h.few
 okp:=fun r hr=>h.okp r (co.1 hr).1
end
end
section
open Go.RowKit

theorem AA:∃(inf:TypeInfo) (z:Value),Try.prog.info? 3=some inf∧inf.size=1∧inf.bytes+1≤9∧inf.zero=some z∧z.cells.size=1:=
 ⟨(Try.prog.info? 3).getD default,((Try.prog.info? 3).getD default).zero.getD default,by kernel_rfl,by kernel_rfl,Nat.le_of_ble_eq_true (by kernel_rfl),by kernel_rfl,by kernel_rfl⟩
theorem yw {l:List Int} (hl:l.length≤2000000):VCx Try.prog ae 0 tj [.vec 1 (iV l) .none] ⟨[], []⟩ fun x T' =>x= .vec 1 (iV l) .none∧T' =⟨[], []⟩:=by
  refine VCx.toLe (VCx.keepQ 0 0 (Nat.le_refl _) (Nat.le_refl _) ?_)
  cases l with
  | nil=>exact ak ac aa ag ah (Dj _) ⟨⟨.nil 1,rfl⟩,⟨.vec 1 [] _,rfl⟩⟩
  | cons z l=>
    refine ak ac aa ag ah (Dk (iT z) (iV l) (z::l).length _) ⟨?_, ?_,rfl⟩
    · obtain ⟨inf,zz,i1,i2,i3,i4,i5⟩:=AA
      have h1:=ij (inf:=inf) (P:=Try.prog) (G:=ae) (ro:=0) (T:=⟨[], []⟩) (T1:=⟨[], [(0,1,false)]⟩) (t:=30) (tx:=30) (s:= .tmp 5) (x:= .tmp 6) (l:= [(5, .vec 1 [] .full),(6, .vec 1 (iV (z::l)) .none)]) (es:= []) (es2:=iV (z::l)) (k:=0) (n:=0) (bn:=false) Try.underlying30 i1 i4 (by rw [i5,i2]) (by rw [i2];omega) (by kernel_rfl)
        (by rw [i2];simp [aS,cS,eY]) (by rw [i2];rfl)
        (by have h1:=i3
            have h2:=Nat.mul_le_mul (show ([]:Bs).length+(iV (z::l)).length≤2000000 by simpa [iV] using hl) h1
            omega)
      rw [i2] at h1
      simp only [List.nil_append,Nat.zero_add] at h1
      rw [show (iV (z::l)).length=(z::l).length by simp [iV]] at h1
      exact h1
    · simp only [TV.ren]
      rw [show [iT z]++iV l=iV (z::l) from rfl,cw]
      exact TVle.vec 1 _ _
theorem Dp:∀ro ys T K,yu ro ys T K→VCx Try.prog ae ro tj ys T K:=by
 intro ro ys T K hw
 unfold yu at hw
 split at hw
 ·obtain ⟨⟨l,rfl,hl⟩,hk⟩:=hw
  exact VCx.loosePure az (yw hl) (by simp [cW]) (by simp only [ar,TV.ren,cw,Tok.ren]) (fun f g=>by simp only [TV.ren,cw,Tok.ren]) hk
 ·refine VCx.liftPure az (xs:= [.val (.slice none 0 0)]) (VCx.argsLe (xs:= [.vec 1 (iV []) .none]) ?_ (yw (Nat.zero_le _))) rfl (fun _ _=>rfl) hw
  exact ⟨.nil 1,trivial⟩
 ·exact hw.elim
theorem Dq:aT Try.prog ae (aG [(tj,yu)]):=aV fun p hp=>by obtain rfl:=List.mem_singleton.1 hp;exact Dp
theorem Dr {a:AtV} (ha:a.p.length≤2000000):VCx Try.prog ae 0 iv [.agg a.cells] ⟨[], []⟩ fun x T' =>x= .agg a.cells∧T' =⟨[], []⟩:=
 VCx.keepQ 0 0 (Nat.le_refl _) (Nat.le_refl _) (ak ac aa Dq ah (E6 a _) ⟨⟨a.p,rfl,ha⟩,gR a _ _,rfl⟩)
def Ds (a:AtV):List TV:= [.val (.int .i64 a.o), .val (.slice none 0 0), .val (.int .u32 a.h), .val (.int .i64 a.m), .val (.bool a.hm)]
theorem B1 {a:AtV} (ha:a.p= []):VCx Try.prog ae 0 iv [.agg (Ds a)] ⟨[], []⟩ fun x T' =>x= .agg a.cells∧T' =⟨[], []⟩:=by
 refine VCx.keepQ 0 0 (Nat.le_refl _) (Nat.le_refl _) (ak ac aa Dq ah (Dl a.o a.h a.m a.hm _) ⟨?_,rfl⟩)
 simp only [AtV.cells,ha];rfl
theorem Dt {l:List Int} (h: []=iV l):l= []:=by
 cases l with
 | nil=>rfl
 | cons z l=>cases h
theorem pj:∀ro ys T K,kF ro ys T K→VCx Try.prog ae ro iv ys T K:=by
 intro ro ys T K hw
 unfold kF at hw
 split at hw
 ·obtain ⟨⟨a,ha,hl⟩,hk⟩:=hw
  simp only [AtV.cells,List.cons.injEq,TV.vec.injEq,true_and,and_true] at ha
  obtain ⟨rfl,rfl,rfl,rfl,rfl⟩:=ha
  refine VCx.liftPure az (VCx.argsLe (xs:= [.agg a.cells]) ?_ (Dr hl)) (by simp only [ar,TV.ren,cw];rfl) (gR a) hk
  exact ⟨.agg ⟨.refl _, .vec 1 _ _, .refl _, .refl _, .refl _,trivial⟩,trivial⟩
 ·obtain ⟨⟨a,ha,hl⟩,hk⟩:=hw
  simp only [AtV.cells,List.cons.injEq,TV.vec.injEq,true_and,and_true] at ha
  obtain ⟨rfl,hp,rfl,rfl,rfl⟩:=ha
  have hp:=Dt hp
  refine VCx.liftPure az (xs:= [.agg (Ds a)]) (B1 hp) rfl (gR a) ?_
  simp only [AtV.cells,hp];exact hk
 ·exact hw.elim
end
section
open Go.RowKit
set_option maxRecDepth 100000

def A4:Value:= .agg #[.int .i64 0, .slice none 0 0, .int .u32 0, .int .i64 0, .bool false]
theorem dA {T:VT} {lk:bG} {es:bv} {ck id:Nat} {p:Px} (hid:T.objs[id]?=some (.map kP lk es ck)) (ok:Bool):cO Try.prog T 73 (.map id) (dy p.1 p.2) ok=some (dZ ok (lk (bH p)) A4):=by
 have h:∀o:Option VO,o=some (.map kP lk es ck)→(match Try.prog.underlying 73,bQ (dy p.1 p.2) with
   | some (.map kt et),some kv=>match ci Try.prog kt,Try.prog.info? et with
    | some sh,some i=>match i.zero with
     | some zz=>bif sh.fits kv then (match o with
       | some (.map sh' look _ _)=>bif fQ sh sh' then some (dZ ok (look kv) zz) else none
       | _=>none) else none
     | none=>none
    | _,_=>none
   | _,_=>none)=some (dZ ok (lk (bH p)) A4):=by
  rintro _ rfl
  kernel_rfl
 exact h _ hid
theorem pk {G:av} {T:VT} {t:TypeId} {m k:Operand} {ok:Bool} {l:List (Nat × TV)} {y:TV} (h:cO Try.prog T t (aS G l m) (aS G l k) ok=some y):bE Try.prog G 0 T (.lookup t m k ok) l y T:=by
 refine .mk ?_
 have h1:aN Try.prog (.lookup t m k ok) (aS G l)=none:=by simp [aN,cZ]
 have h2:aJ Try.prog T (.lookup t m k ok) (aS G l)=some y:=by simp only [aJ,h]
 simp only [ea,h1,h2]
theorem io {W:List aj} {lk:bG} {es:bv} {ck:Nat} (h:TbOk W lk es ck) {p:Px} {a:AtV} (ha:ay W p=some a):dZ true (lk (bH p)) A4= .tup [.agg a.cells, .val (.bool true)]:=by
 rw [h.look,ha];rfl
theorem ip {W:List aj} {lk:bG} {es:bv} {ck:Nat} (h:TbOk W lk es ck) {p:Px} (ha:ay W p=none):dZ true (lk (bH p)) A4= .tup [.agg [.val (.int .i64 0), .val (.slice none 0 0), .val (.int .u32 0), .val (.int .i64 0), .val (.bool false)], .val (.bool false)]:=by
 rw [h.look,ha];rfl
def cf (W:List aj) (p:Px):AtV:=(ay W p).getD cK
def ba (W:List aj) (p:Px):Bool:=(ay W p).isSome
theorem wI:aT Try.prog ae (aG [(iv,kF)]):=aV fun p hp=>by obtain rfl:=List.mem_singleton.1 hp;exact pj
theorem AtV.ren' (a:AtV) (f g:Nat→Option Nat):ar f g a.cells=a.cells:=by
 have:=gR a f g
 simp only [gz,TV.ren] at this
 injection this
theorem ve {W:List aj} {lk:bG} {es:bv} {ck:Nat} (h:TbOk W lk es ck) (l:List VO):VT.keep ⟨.map kP lk es ck::l, []⟩ 1 0=⟨[.map kP lk es ck], []⟩:=by
 have e:=h.ren (am 1) (am 0)
 simp only [VT.keep,List.take_succ_cons,List.take_zero,List.map_cons,List.map_nil,e]
theorem Du {W:List aj} {lk:bG} {es:bv} {ck:Nat} (h:TbOk W lk es ck) (p:Px):VCx Try.prog ae 0 tp [.map 0,dy p.1 p.2] ⟨[.map kP lk es ck], []⟩ fun x T' =>x= .tup [.agg (cf W p).cells, .val (.bool (ba W p))]∧T' =⟨[.map kP lk es ck], []⟩:=by
 refine VCx.keepQ 1 0 (Nat.le_refl _) (Nat.le_refl _) ?_
 cases hf:ay W p with
 | some a=>
  rw [show cf W p=a by rw [cf,hf];rfl,show ba W p=true by rw [ba,hf];rfl]
  refine ak ac aa wI ah (E7 lk es ck p.1 p.2 a true _) ⟨pk ((dA (T:=⟨[.map kP lk es ck,_,_], []⟩) (id:=0) rfl true).trans (by rw [io h hf];rfl)),⟨a,rfl,h.okp _ (br hf)⟩, ?_,ve h _⟩
  simp only [TV.ren,ar,cw,Tok.ren,AtV.cells]
 | none=>
  rw [show cf W p=cK by rw [cf,hf];rfl,show ba W p=false by rw [ba,hf];rfl]
  refine ak ac aa wI ah (Dm lk es ck p.1 p.2 _) ⟨pk ((dA (T:=⟨[.map kP lk es ck,_,_], []⟩) (id:=0) rfl true).trans (by rw [ip h hf])),⟨cK,rfl,Nat.zero_le _⟩, ?_,ve h _⟩
  rfl
theorem Dv (y:AtV) (b:Bool):∀ro ys T K,yv y b ro ys T K→VCx Try.prog ae ro tp ys T K:=by
  intro ro ys T K hw
  unfold yv at hw
  split at hw
  · rename_i m a n
    split at hw
    · rename_i sh lk es ck hm
      obtain ⟨⟨hro,W,rfl,h,rfl,rfl⟩,hk⟩:=hw
      refine VCx.at1 (k:=m) az (Nat.le_of_ble_eq_true hro) hm rfl (h.ren _ _) (ys1:= [.map 0,dy a n]) (by simp [ar,TV.ren,aZ,dy,List.idxOf?,List.findIdx?,List.findIdx?.go]) (Q:=fun x o' l' =>x= .tup [.agg (cf W (a,n)).cells, .val (.bool (ba W (a,n)))]∧o' = .map kP lk es ck∧l' = [])
        ((Du h (a,n)).mono fun x T' ⟨h1,h2⟩=>⟨_,_,h2,h1,rfl,rfl⟩) ?_
      rintro x o' l' ⟨rfl,rfl,rfl⟩
      rw [h.ren,List.map_nil,List.append_nil]
      have e:T.objs.set m (.map kP lk es ck)=T.objs:=List.ext_getElem? fun j=>by
        rw [List.getElem?_set]
        split
        · rename_i e;subst e
          obtain ⟨hlt,_⟩:=List.getElem?_eq_some_iff.1 hm
          rw [if_pos hlt,hm]
        · rfl
      rw [e]
      simp only [TV.ren,ar,AtV.ren']
      exact hk
    · exact hw.elim
  · exact hw.elim
end
section
open Go.RowKit
set_option maxRecDepth 100000

theorem lA {a:AtV} (h:cD a=true):a.p.length≤2000000:=by
 have:=(CS h).p.1
 omega
theorem Dw (p:Px) {a:AtV} (g:Bool) (ha:a.p.length≤9223372036854775807):VCx Try.prog ae 0 yn [.agg (fm p.1 p.2 a g)] ⟨[], []⟩ fun x T' =>x= .val (.bool (eU p a g))∧T' =⟨[], []⟩:=by
 have hS:aT Try.prog ae (aG [(qU,s6),(qT,sZ (cD a)),(nH,A1 (decide (a=cK)))]):=aV fun q hq=>by
  rcases List.mem_cons.1 hq with rfl | hq;exact ye
  rcases List.mem_cons.1 hq with rfl | hq;exact yc _
  obtain rfl:=List.mem_singleton.1 hq;exact CW _
 refine VCx.keepQ 0 0 (Nat.le_refl _) (Nat.le_refl _) (ak ac aa hS ah (E8 p.1 p.2 a g (cD a) (decide (a=cK)) _) ?_)
 unfold eU
 refine aA (fun hg=> ?_) (fun hg=> ?_)
 ·subst hg
  refine aA (fun hp=> ?_) (fun hp=> ?_)
  ·rw [hp];exact ⟨⟨a,rfl,ha,rfl,rfl⟩,rfl,rfl⟩
  ·rw [hp];exact ⟨rfl,rfl⟩
 ·subst hg
  refine aA (fun hp=> ?_) (fun hp=> ?_)
  ·rw [hp];exact ⟨⟨a,rfl,ha,rfl⟩,rfl,rfl⟩
  ·rw [hp];exact ⟨rfl,rfl⟩
theorem Dx (ok:Bool):∀ro ys T K,A3 ok ro ys T K→VCx Try.prog ae ro yn ys T K:=by
 intro ro ys T K hw
 unfold A3 at hw
 split at hw
 ·obtain ⟨⟨p,a,g,rfl,ha,rfl⟩,hk⟩:=hw
  refine VCx.liftPure az (Dw p g ha) ?_ (fun _ _=>rfl) hk
  simp only [ar,TV.ren,AtV.cells,cw,Tok.ren,fm,List.cons_append,List.nil_append]
 ·exact hw.elim
def RibT (W H:List aj) (T:VT):Prop:=∃lk lk2 es es2 ck ck2,T=dc lk lk2 es es2 ck ck2∧TbOk W lk es ck∧TbOk H lk2 es2 ck2
section
variable {W H:List aj} {lk lk2:bG} {es es2:bv} {ck ck2:Nat}
theorem nj (h:TbOk W lk es ck) (h2:TbOk H lk2 es2 ck2) (l:List VO):VT.keep ⟨.cells [.map 1, .map 2]:: .map kP lk es ck:: .map kP lk2 es2 ck2::l, []⟩ 3 0=dc lk lk2 es es2 ck ck2:=by
 have e1:=h.ren (am 3) (am 0)
 have e2:=h2.ren (am 3) (am 0)
 simp only [VT.keep,List.take_succ_cons,List.take_zero,List.map_cons,List.map_nil,e1,e2,dc]
 rfl
theorem eC (h:TbOk W lk es ck) (h2:TbOk H lk2 es2 ck2) (l:List VO):RibT W H (VT.keep ⟨.cells [.map 1, .map 2]:: .map kP lk es ck:: .map kP lk2 es2 ck2::l, []⟩ 3 0):=⟨_,_,_,_,_,_,nj h h2 l,h,h2⟩
def ct (p:Px) (a:AtV):Bool:=fh p.1 p.2&&cD a
def fI (p:Px) (a:AtV):Int:=bif ct p a then 0 else 2
def dz (W:List aj) (p:Px) (a:AtV):List aj:=bif ct p a then bN W (p,a) else W
theorem Dy {T:VT} (h:RibT W H T) (p:Px) {a:AtV} (ha:a.p.length≤9223372036854775807) (hl:W.length<1000):VCx Try.prog ae 0 u9 [.ptr 0 0,dy p.1 p.2, .agg a.cells] T fun x T' =>x= .val (.int .i64 (fI p a))∧RibT (dz W p a) H T' :=by
 obtain ⟨lk,lk2,es,es2,ck,ck2,rfl,h1,h2⟩:=h
 have hS:aT Try.prog ae (aG [(qU,s6),(qT,sZ (cD a)),(iv,kF)]):=aV fun q hq=>by
  rcases List.mem_cons.1 hq with rfl | hq;exact ye
  rcases List.mem_cons.1 hq with rfl | hq;exact yc _
  obtain rfl:=List.mem_singleton.1 hq;exact pj
 refine VCx.keepQ 3 0 (Nat.le_refl _) (Nat.le_refl _) ?_
 have hlen:=h1.len
 have hput:=fun hg:cD a=true=>h1.put p a hl (lA hg) rfl
 have hge:∀n:Nat,n=W.length→decide ((n:Int)≥1024)=false:=fun n hn=>decide_eq_false (by omega)
 cases hf:ay W p with
 | some y=>
  refine ak ac aa hS ah (E9 lk lk2 es es2 ck ck2 p.1 p.2 a y (cD a) _) ?_
  cases hp:fh p.1 p.2 with
  | false=>exact ⟨by simp only [fI,ct,hp];rfl,by simp only [dz,ct,hp];exact eC h1 h2 _⟩
  | true=>
   refine be rfl ⟨⟨a,rfl,ha,rfl⟩, ?_⟩
   cases hg:cD a with
   | false=>exact ⟨by simp only [fI,ct,hp,hg];rfl,by simp only [dz,ct,hp,hg];exact eC h1 h2 _⟩
   | true=>
    refine be rfl ⟨⟨(dA (T:=⟨[_, .map kP lk es ck,_,_,_], []⟩) (id:=1) (p:=p) rfl true).trans (by rw [io h1 hf];rfl)⟩,⟨a,rfl,lA hg⟩,⟨rfl,rfl,rfl,trivial⟩, ?_, ?_⟩
    ·simp only [fI,ct,hp,hg];rfl
    ·simp only [dz,ct,hp,hg];exact eC (hput hg) h2 _
 | none=>
  refine ak ac aa hS ah (Dn lk lk2 es es2 ck ck2 p.1 p.2 a (cD a) _) ?_
  cases hp:fh p.1 p.2 with
  | false=>exact ⟨by simp only [fI,ct,hp];rfl,by simp only [dz,ct,hp];exact eC h1 h2 _⟩
  | true=>
   refine be rfl ⟨⟨a,rfl,ha,rfl⟩, ?_⟩
   cases hg:cD a with
   | false=>exact ⟨by simp only [fI,ct,hp,hg];rfl,by simp only [dz,ct,hp,hg];exact eC h1 h2 _⟩
   | true=>
    refine be rfl ⟨⟨(dA (T:=⟨[_, .map kP lk es ck,_,_,_], []⟩) (id:=1) (p:=p) rfl true).trans (by rw [ip h1 hf])⟩,be (hge _ hlen) ⟨⟨a,rfl,lA hg⟩,⟨rfl,rfl,rfl,trivial⟩, ?_, ?_⟩⟩
    ·simp only [fI,ct,hp,hg];rfl
    ·simp only [dz,ct,hp,hg];exact eC (hput hg) h2 _
theorem Dz {T:VT} (h:RibT W H T) (p:Px):VCx Try.prog ae 0 va [.ptr 0 0,dy p.1 p.2] T fun x T' =>x= .val (.bool (ba W p))∧RibT (ax W p) H T' :=by
 obtain ⟨lk,lk2,es,es2,ck,ck2,rfl,h1,h2⟩:=h
 refine VCx.keepQ 3 0 (Nat.le_refl _) (Nat.le_refl _) ?_
 have hdel:=h1.del p
 cases hf:ay W p with
 | some y=>
  rw [show ba W p=true by rw [ba,hf];rfl]
  exact ak ac aa ag ah (Fa lk lk2 es es2 ck ck2 p.1 p.2 y _) ⟨⟨(dA (T:=⟨[_, .map kP lk es ck,_,_], []⟩) (id:=1) (p:=p) rfl true).trans (by rw [io h1 hf];rfl)⟩,rfl,eC hdel h2 _⟩
 | none=>
  rw [show ba W p=false by rw [ba,hf];rfl]
  exact ak ac aa ag ah (Do lk lk2 es es2 ck ck2 p.1 p.2 _) ⟨⟨(dA (T:=⟨[_, .map kP lk es ck,_,_], []⟩) (id:=1) (p:=p) rfl true).trans (by rw [ip h1 hf])⟩,rfl,eC hdel h2 _⟩
def gB (p:Px) (a:AtV) (g:Bool):Int:=bif eU p a g then 0 else 2
def cA (H:List aj) (p:Px) (a:AtV) (g:Bool):List aj:=bif eU p a g then (bif g then ax H p else bN H (p,a)) else H
theorem tr {T:VT} (h:RibT W H T) (p:Px) {a:AtV} (g:Bool) (ha:a.p.length≤9223372036854775807) (hl:H.length<1000):VCx Try.prog ae 0 pf [.ptr 0 0, .agg (fm p.1 p.2 a g)] T fun x T' =>x= .val (.int .i64 (gB p a g))∧RibT W (cA H p a g) T' :=by
 obtain ⟨lk,lk2,es,es2,ck,ck2,rfl,h1,h2⟩:=h
 have hS:aT Try.prog ae (aG [(yn,A3 (eU p a g)),(iv,kF)]):=aV fun q hq=>by
  rcases List.mem_cons.1 hq with rfl | hq;exact Dx _
  obtain rfl:=List.mem_singleton.1 hq;exact pj
 have hput:=fun hg:cD a=true=>h2.put p a hl (lA hg) rfl
 have hdel:=h2.del p
 refine VCx.keepQ 3 0 (Nat.le_refl _) (Nat.le_refl _) (ak ac aa hS ah (Fb lk lk2 es es2 ck ck2 p.1 p.2 a g (eU p a g) _) ⟨⟨p,a,g,rfl,ha,rfl⟩, ?_⟩)
 cases hc:eU p a g with
 | false=>exact ⟨by simp only [gB,hc];rfl,by simp only [cA,hc];exact eC h1 h2 _⟩
 | true=>
  refine be rfl ?_
  cases g with
  | true=>exact ⟨by simp only [gB,hc];rfl,by simp only [cA,hc];exact eC h1 hdel _⟩
  | false=>
   have hg:cD a=true:=by unfold eU at hc;simp only [cond_false,Bool.and_eq_true] at hc;exact hc.2
   exact ⟨⟨a,rfl,lA hg⟩,⟨rfl,rfl,rfl,trivial⟩,by simp only [gB,hc];rfl,by simp only [cA,hc];exact eC h1 (hput hg) _⟩
theorem DA {T:VT} (h:RibT W H T):VCx Try.prog ae 0 yp [.ptr 0 0] T fun x T' =>x= .tup []∧RibT W [] T' :=by
 obtain ⟨lk,lk2,es,es2,ck,ck2,rfl,h1,h2⟩:=h
 exact VCx.keepQ 3 0 (Nat.le_refl _) (Nat.le_refl _) (ak ac aa ag ah (Fc lk lk2 es es2 ck ck2 _) ⟨rfl,eC h1 (TbOk.empty ck2) _⟩)
theorem DB (y:AtV) (b:Bool):aT Try.prog ae (aG [(tp,yv y b)]):=aV fun p hp=>by obtain rfl:=List.mem_singleton.1 hp;exact Dv _ _
theorem DC {T:VT} (h:RibT W H T) (p:Px):VCx Try.prog ae 0 q8 [.ptr 0 0,dy p.1 p.2] T fun x T' =>x= .tup [.agg (cf W p).cells, .val (.bool (ba W p))]∧T' =T:=by
 obtain ⟨lk,lk2,es,es2,ck,ck2,rfl,h1,h2⟩:=h
 refine VCx.keepQ 3 0 (Nat.le_refl _) (Nat.le_refl _) (ak ac aa (DB _ _) ah (Fd lk lk2 es es2 ck ck2 p.1 p.2 (cf W p) (ba W p) _) ⟨⟨rfl,W,rfl,h1,rfl,rfl⟩, ?_,nj h1 h2 _⟩)
 simp only [TV.ren,ar,AtV.cells,cw,Tok.ren]
theorem DD {T:VT} (h:RibT W H T) (p:Px):VCx Try.prog ae 0 yq [.ptr 0 0,dy p.1 p.2] T fun x T' =>x= .tup [.agg (cf H p).cells, .val (.bool (ba H p))]∧T' =T:=by
 obtain ⟨lk,lk2,es,es2,ck,ck2,rfl,h1,h2⟩:=h
 refine VCx.keepQ 3 0 (Nat.le_refl _) (Nat.le_refl _) (ak ac aa (DB _ _) ah (Fe lk lk2 es es2 ck ck2 p.1 p.2 (cf H p) (ba H p) _) ⟨⟨rfl,H,rfl,h2,rfl,rfl⟩, ?_,nj h1 h2 _⟩)
 simp only [TV.ren,ar,AtV.cells,cw,Tok.ren]
theorem DE {T:VT} (h:RibT W H T):VCx Try.prog ae 0 yr [.ptr 0 0] T fun x T' =>x= .tup [.val (.int .i64 W.length), .val (.int .i64 H.length)]∧T' =T:=by
 obtain ⟨lk,lk2,es,es2,ck,ck2,rfl,h1,h2⟩:=h
 refine VCx.keepQ 3 0 (Nat.le_refl _) (Nat.le_refl _) (ak ac aa ag ah (Ff lk lk2 es es2 ck ck2 _) ⟨?_,nj h1 h2 _⟩)
 rw [h1.len,h2.len];rfl
end
end
section
open Go.RowKit

def AB (sh:KS) (lk:bG) (es:bv) (ck:Nat):Prop:=sh=kP∧MkOk lk es ck
def AC (es:bv) (L:Bs):Prop:=∃l:List Px,l.Perm (kD es)∧L=l.map au
def AD (L:Bs):Prop:=∃l:List Px,L=l.map au∧l.length≤1000
def nJ (L:Bs):Bs:=(bS (dV (CT L))).map au
def aC (W H:List aj):List Px:=(H.map (·.1)).filter fun p=> !ba W p
def aI (W H:List aj):List aj:=W.filter fun r=> !decide (ay H r.1=some r.2)
def cg (r:aj):List TV:=fm r.1.1 r.1.2 r.2 false
def xC:List aj→TV
 | []=> .val (.slice none 0 0)
 | r::l=> .vec 8 ((r::l).map cg) (.tail 0 (r::l).length)
def tC:List aj→bF
 | []=> []
 | r::l=> [((r::l).length,8,true)]
abbrev nK:=11
abbrev nL:=14
abbrev b9:=74
abbrev yx:=18
noncomputable def dW:Code:=match cu (ii Try.prog nK) with
 | some (a,_)=>a
 | none=> .skip
noncomputable def dk:Code:=match cu (ii Try.prog nK) with
 | some (_,b)=>b
 | none=> .skip
noncomputable def dn:Code:=match cu (ii Try.prog nL) with
 | some (a,_)=>a
 | none=> .skip
noncomputable def cL:Code:=match cu (ii Try.prog nL) with
 | some (_,b)=>b
 | none=> .skip
def GC:List TV:= [.ptr 0 0, .ptr 3 0, .val (.slice none 0 0), .ptr 4 0,uT,uT,uT, .ptr 0 0, .val (.bool true), .val (.bool false), .ptr 0 0, .ptr 0 0, .ptr 0 1, .map 2, .fn (.func b9) [] [.ptr 5 0]]++List.replicate 18 uT
def GD:List TV:= [.ptr 0 0, .ptr 3 0, .val (.slice none 0 0), .ptr 4 0,uT,uT,uT,uT, .ptr 0 0, .val (.bool true), .val (.bool false), .ptr 0 0, .ptr 0 0, .ptr 0 0, .map 1, .fn (.func b9) [] [.ptr 5 0]]++List.replicate 27 uT
def vg:aQ:=fun ro ys T K=>match ys with
 | [.fn (.func f) [] [.ptr b 0]]=>match T.objs[b]? with
  | some (.cells [.map m])=>match T.objs[m]? with
   | some (.map sh lk es ck)=>(((@Eq Nat f ed)∧((@Eq Bool (Nat.ble ro b) true)∧(@Eq Bool (Nat.ble ro m) true)))∧AB sh lk es ck)∧∀L:Bs,AC es L→K (.vec 2 L .none) T
   | _=>ap 87 default ys
  | _=>ap 86 default ys
 | _=>ap 85 default ys
def vh:aQ:=fun _ ys T K=>match ys with
 | [.vec 2 L _]=>AD L∧K (.vec 2 (nJ L) .none) T
 | _=>ap 85 default ys
def gC:List Nat:= [0,1,8,9,10]
def gj (S:Bs) (j:Int):List TV:= [.yld 7, .ptr 5 0, .vec 2 S .none, .val (.int .i64 S.length), .val (.int .i64 j)]
noncomputable def tu (lk lk2:bG) (es es2:bv) (ck ck2:Nat) (x:TV):List VO:= [.cells [.map 1, .map 2], .map kP lk es ck, .map kP lk2 es2 ck2, .cells [.ptr 0 0], .cells [x], .cells [.map 2], .defd, .loop .ready none GC #[15,16] dW dk]
noncomputable def tv (lk lk2:bG) (es es2:bv) (ck ck2:Nat) (x:TV):List VO:= [.cells [.map 1, .map 2], .map kP lk es ck, .map kP lk2 es2 ck2, .cells [.ptr 0 0], .cells [x], .cells [.map 1], .defd, .loop .ready none GD #[16,17] dn cL]
noncomputable def lW (lk lk2:bG) (es es2:bv) (ck ck2:Nat) (x:TV) (tl:bF):VT:=⟨tu lk lk2 es es2 ck ck2 x++ [.cells [.map 2]],tl⟩
noncomputable def kG (lk lk2:bG) (es es2:bv) (ck ck2:Nat) (x:TV) (tl:bF):VT:=⟨tv lk lk2 es es2 ck ck2 x++ [.cells [.map 1]],tl⟩
def j3:TV:= .val (.slice none 0 0)
noncomputable def DF (lk lk2:bG) (es es2:bv) (ck ck2:Nat) (S:Bs) (x:TV) (tl:bF) (c0:Code):Nat→Option (bs × Code):=cT [(0,eR 22 gC [] (gj S 0) (lW lk lk2 es es2 ck ck2 j3 []) (fun K=>K .normal (aL 22 gC (gj S S.length)) (lW lk lk2 es es2 ck ck2 x tl) []),c0)]
noncomputable def DG (lk lk2:bG) (es es2:bv) (ck ck2:Nat) (S:Bs) (x:TV) (tl:bF) (c0:Code):Nat→Option (bs × Code):=cT [(0,eR 22 gC [] (gj S 0) (kG lk lk2 es es2 ck ck2 j3 []) (fun K=>K .normal (aL 22 gC (gj S S.length)) (kG lk lk2 es es2 ck ck2 x tl) []),c0)]
def DH (T:VT) (x:TV) (tl:bF):Prop:=∃W H lk lk2 es es2 ck ck2,T=⟨tu lk lk2 es es2 ck ck2 j3, []⟩∧(TbOk W lk es ck∧TbOk H lk2 es2 ck2)∧x=xP (aC W H)∧tl=tP (aC W H)
def DI (T:VT) (x:TV) (tl:bF):Prop:=∃W H lk lk2 es es2 ck ck2,T=⟨tv lk lk2 es es2 ck ck2 j3, []⟩∧(TbOk W lk es ck∧TbOk H lk2 es2 ck2)∧x=xC (aI W H)∧tl=tC (aI W H)
def AE (x:TV) (tl:bF):aQ:=fun ro ys T K=>match ys with
 | [.yld 7, .ptr 5 0]=>(ro=0∧DH T x tl)∧K (.tup []) ⟨T.objs.set 4 (.cells [x]),tl⟩
 | _=>ap 85 default ys
def AF (x:TV) (tl:bF):aQ:=fun ro ys T K=>match ys with
 | [.yld 7, .ptr 5 0]=>(ro=0∧DI T x tl)∧K (.tup []) ⟨T.objs.set 4 (.cells [x]),tl⟩
 | _=>ap 85 default ys
def DJ (T:VT) (L:Bs):Prop:=∃W H,RibT W H T∧L=(aC W H).map au
def DK (T:VT) (L:Bs):Prop:=∃W H,RibT W H T∧L=(aI W H).map cg
def A5 (L:Bs):aQ:=fun ro ys T K=>match ys with
 | [.ptr 0 0]=>(ro=0∧DJ T L)∧K (.vec 2 L .none) T
 | _=>ap 85 default ys
def A6 (L:Bs):aQ:=fun ro ys T K=>match ys with
 | [.ptr 0 0]=>(ro=0∧DK T L)∧K (.vec 8 L .none) T
 | _=>ap 85 default ys
theorem Fg (lk lk2:bG) (es es2:bv) (ck ck2:Nat) (x:TV) (tl:bF) (Q:TV→VT→Prop):an Try.prog ae (aG [(b9,AE x tl)]) (aH [(999998, .dead,none)]) 300 aE 0 nK [.ptr 0 0] (dc lk lk2 es es2 ck ck2) Q=
 (((@Eq (Nat) 0 0)∧
 DH ⟨[(.cells [(.map 1),(.map 2)]),(.map ⟨true, [(.int .u32),(.int .i64)]⟩ (lk) (es) (ck)),(.map ⟨true, [(.int .u32),(.int .i64)]⟩ (lk2) (es2) (ck2)),(.cells [(.ptr 0 0)]),(.cells [(.val (.slice .none 0 0))]),(.cells [(.map 2)]), .defd,(.loop .ready .none [(.ptr 0 0),(.ptr 3 0),(.val (.slice .none 0 0)),(.ptr 4 0),(.val (.tuple #[])),(.val (.tuple #[])),(.val (.tuple #[])),(.ptr 0 0),(.val (.bool true)),(.val (.bool false)),(.ptr 0 0),(.ptr 0 0),(.ptr 0 1),(.map 2),(.fn (.func 74) [] [(.ptr 5 0)]),(.val (.tuple #[])),(.val (.tuple #[])),(.val (.tuple #[])),(.val (.tuple #[])),(.val (.tuple #[])),(.val (.tuple #[])),(.val (.tuple #[])),(.val (.tuple #[])),(.val (.tuple #[])),(.val (.tuple #[])),(.val (.tuple #[])),(.val (.tuple #[])),(.val (.tuple #[])),(.val (.tuple #[])),(.val (.tuple #[])),(.val (.tuple #[])),(.val (.tuple #[])),(.val (.tuple #[]))] #[15,16] dW dk)], []⟩ (x) (tl))∧
 Q (x) ⟨[(.cells [(.map 1),(.map 2)]),(.map ⟨true, [(.int .u32),(.int .i64)]⟩ (lk) (es) (ck)),(.map ⟨true, [(.int .u32),(.int .i64)]⟩ (lk2) (es2) (ck2)),(.cells [(.ptr 0 0)]),(.cells [(x)]),(.cells [(.map 2)]), .gone,(.loop .exhausted .none [(.ptr 0 0),(.ptr 3 0),(.val (.slice .none 0 0)),(.ptr 4 0),(.val (.tuple #[])),(.val (.tuple #[])),(.val (.tuple #[])),(.ptr 0 0),(.val (.bool true)),(.val (.bool false)),(.ptr 0 0),(.ptr 0 0),(.ptr 0 1),(.map 2),(.fn (.func 74) [] [(.ptr 5 0)]),(.val (.tuple #[])),(.val (.tuple #[])),(.val (.tuple #[])),(.val (.tuple #[])),(.val (.tuple #[])),(.val (.tuple #[])),(.val (.tuple #[])),(.val (.tuple #[])),(.val (.tuple #[])),(.val (.tuple #[])),(.val (.tuple #[])),(.val (.tuple #[])),(.val (.tuple #[])),(.val (.tuple #[])),(.val (.tuple #[])),(.val (.tuple #[])),(.val (.tuple #[])),(.val (.tuple #[]))] #[15,16] dW dk)],(tl)⟩):=by kernel_rfl
theorem Fh (lk lk2:bG) (es es2:bv) (ck ck2:Nat) (x:TV) (tl:bF) (Q:TV→VT→Prop):an Try.prog ae (aG [(b9,AF x tl)]) (aH [(999998, .dead,none)]) 300 aE 0 nL [.ptr 0 0] (dc lk lk2 es es2 ck ck2) Q=
 (((@Eq (Nat) 0 0)∧
 DI ⟨[(.cells [(.map 1),(.map 2)]),(.map ⟨true, [(.int .u32),(.int .i64)]⟩ (lk) (es) (ck)),(.map ⟨true, [(.int .u32),(.int .i64)]⟩ (lk2) (es2) (ck2)),(.cells [(.ptr 0 0)]),(.cells [(.val (.slice .none 0 0))]),(.cells [(.map 1)]), .defd,(.loop .ready .none [(.ptr 0 0),(.ptr 3 0),(.val (.slice .none 0 0)),(.ptr 4 0),(.val (.tuple #[])),(.val (.tuple #[])),(.val (.tuple #[])),(.val (.tuple #[])),(.ptr 0 0),(.val (.bool true)),(.val (.bool false)),(.ptr 0 0),(.ptr 0 0),(.ptr 0 0),(.map 1),(.fn (.func 74) [] [(.ptr 5 0)]),(.val (.tuple #[])),(.val (.tuple #[])),(.val (.tuple #[])),(.val (.tuple #[])),(.val (.tuple #[])),(.val (.tuple #[])),(.val (.tuple #[])),(.val (.tuple #[])),(.val (.tuple #[])),(.val (.tuple #[])),(.val (.tuple #[])),(.val (.tuple #[])),(.val (.tuple #[])),(.val (.tuple #[])),(.val (.tuple #[])),(.val (.tuple #[])),(.val (.tuple #[])),(.val (.tuple #[])),(.val (.tuple #[])),(.val (.tuple #[])),(.val (.tuple #[])),(.val (.tuple #[])),(.val (.tuple #[])),(.val (.tuple #[])),(.val (.tuple #[])),(.val (.tuple #[])),(.val (.tuple #[]))] #[16,17] dn cL)], []⟩ (x) (tl))∧
 Q (x) ⟨[(.cells [(.map 1),(.map 2)]),(.map ⟨true, [(.int .u32),(.int .i64)]⟩ (lk) (es) (ck)),(.map ⟨true, [(.int .u32),(.int .i64)]⟩ (lk2) (es2) (ck2)),(.cells [(.ptr 0 0)]),(.cells [(x)]),(.cells [(.map 1)]), .gone,(.loop .exhausted .none [(.ptr 0 0),(.ptr 3 0),(.val (.slice .none 0 0)),(.ptr 4 0),(.val (.tuple #[])),(.val (.tuple #[])),(.val (.tuple #[])),(.val (.tuple #[])),(.ptr 0 0),(.val (.bool true)),(.val (.bool false)),(.ptr 0 0),(.ptr 0 0),(.ptr 0 0),(.map 1),(.fn (.func 74) [] [(.ptr 5 0)]),(.val (.tuple #[])),(.val (.tuple #[])),(.val (.tuple #[])),(.val (.tuple #[])),(.val (.tuple #[])),(.val (.tuple #[])),(.val (.tuple #[])),(.val (.tuple #[])),(.val (.tuple #[])),(.val (.tuple #[])),(.val (.tuple #[])),(.val (.tuple #[])),(.val (.tuple #[])),(.val (.tuple #[])),(.val (.tuple #[])),(.val (.tuple #[])),(.val (.tuple #[])),(.val (.tuple #[])),(.val (.tuple #[])),(.val (.tuple #[])),(.val (.tuple #[])),(.val (.tuple #[])),(.val (.tuple #[])),(.val (.tuple #[])),(.val (.tuple #[])),(.val (.tuple #[])),(.val (.tuple #[]))] #[16,17] dn cL)],(tl)⟩):=by kernel_rfl
theorem Fi (lk lk2:bG) (es es2:bv) (ck ck2:Nat) (S:Bs) (x:TV) (tl:bF) (Q:TV→VT→Prop):an Try.prog ae (aG [(tf,vg),(qV,vh)]) (aH [(999998, .dead,none)]) 300 (DF lk lk2 es es2 ck ck2 S x tl (aq Try.prog b9 0)) 0 b9 [.yld 7, .ptr 5 0] ⟨tu lk lk2 es es2 ck ck2 j3, []⟩ Q=
 ((((@Eq (Nat) 108 108)∧
 ((@Eq (Bool) true true)∧
 (@Eq (Bool) true true)))∧
 AB ⟨true, [(.int .u32),(.int .i64)]⟩ (lk2) (es2) (ck2))∧
 (∀L:Bs,(AC (es2) (L)→(AD (L)∧
 ((aq Try.prog b9 (0:Nat)=aq Try.prog b9 (0:Nat))∧
 (((@Eq (Option Nat) .none .none)∧
 ((@Eq (Nat) 0 0)∧
 ((@Eq (List Nat) [] [])∧
 (True  ∧
 ((@Eq (VT) ⟨[(.cells [(.map 1),(.map 2)]),(.map ⟨true, [(.int .u32),(.int .i64)]⟩ (lk) (es) (ck)),(.map ⟨true, [(.int .u32),(.int .i64)]⟩ (lk2) (es2) (ck2)),(.cells [(.ptr 0 0)]),(.cells [(.val (.slice .none 0 0))]),(.cells [(.map 2)]), .defd,(.loop .ready .none [(.ptr 0 0),(.ptr 3 0),(.val (.slice .none 0 0)),(.ptr 4 0),(.val (.tuple #[])),(.val (.tuple #[])),(.val (.tuple #[])),(.ptr 0 0),(.val (.bool true)),(.val (.bool false)),(.ptr 0 0),(.ptr 0 0),(.ptr 0 1),(.map 2),(.fn (.func 74) [] [(.ptr 5 0)]),(.val (.tuple #[])),(.val (.tuple #[])),(.val (.tuple #[])),(.val (.tuple #[])),(.val (.tuple #[])),(.val (.tuple #[])),(.val (.tuple #[])),(.val (.tuple #[])),(.val (.tuple #[])),(.val (.tuple #[])),(.val (.tuple #[])),(.val (.tuple #[])),(.val (.tuple #[])),(.val (.tuple #[])),(.val (.tuple #[])),(.val (.tuple #[])),(.val (.tuple #[])),(.val (.tuple #[]))] #[15,16] dW dk),(.cells [(.map 2)])], []⟩ ⟨[(.cells [(.map 1),(.map 2)]),(.map ⟨true, [(.int .u32),(.int .i64)]⟩ (lk) (es) (ck)),(.map ⟨true, [(.int .u32),(.int .i64)]⟩ (lk2) (es2) (ck2)),(.cells [(.ptr 0 0)]),(.cells [(.val (.slice .none 0 0))]),(.cells [(.map 2)]), .defd,(.loop .ready .none [(.ptr 0 0),(.ptr 3 0),(.val (.slice .none 0 0)),(.ptr 4 0),(.val (.tuple #[])),(.val (.tuple #[])),(.val (.tuple #[])),(.ptr 0 0),(.val (.bool true)),(.val (.bool false)),(.ptr 0 0),(.ptr 0 0),(.ptr 0 1),(.map 2),(.fn (.func 74) [] [(.ptr 5 0)]),(.val (.tuple #[])),(.val (.tuple #[])),(.val (.tuple #[])),(.val (.tuple #[])),(.val (.tuple #[])),(.val (.tuple #[])),(.val (.tuple #[])),(.val (.tuple #[])),(.val (.tuple #[])),(.val (.tuple #[])),(.val (.tuple #[])),(.val (.tuple #[])),(.val (.tuple #[])),(.val (.tuple #[])),(.val (.tuple #[])),(.val (.tuple #[])),(.val (.tuple #[])),(.val (.tuple #[]))] #[15,16] dW dk),(.cells [(.map 2)])], []⟩)∧
 ((@Eq (Bool) true true)∧
 (@Eq (List TV) [(.yld 7),(.ptr 5 0),(.vec 2 (nJ L) .none),(.val (.int .i64 ((↑(List.length (nJ L)):Int)))),(.val (.int .i64 0))] [(.yld 7),(.ptr 5 0),(.vec 2 (S) .none),(.val (.int .i64 ((↑(List.length S):Int)))),(.val (.int .i64 0))])))))))∧
 Q (.tup []) ⟨[(.cells [(.map 1),(.map 2)]),(.map ⟨true, [(.int .u32),(.int .i64)]⟩ (lk) (es) (ck)),(.map ⟨true, [(.int .u32),(.int .i64)]⟩ (lk2) (es2) (ck2)),(.cells [(.ptr 0 0)]),(.cells [(x)]),(.cells [(.map 2)]), .defd,(.loop .ready .none [(.ptr 0 0),(.ptr 3 0),(.val (.slice .none 0 0)),(.ptr 4 0),(.val (.tuple #[])),(.val (.tuple #[])),(.val (.tuple #[])),(.ptr 0 0),(.val (.bool true)),(.val (.bool false)),(.ptr 0 0),(.ptr 0 0),(.ptr 0 1),(.map 2),(.fn (.func 74) [] [(.ptr 5 0)]),(.val (.tuple #[])),(.val (.tuple #[])),(.val (.tuple #[])),(.val (.tuple #[])),(.val (.tuple #[])),(.val (.tuple #[])),(.val (.tuple #[])),(.val (.tuple #[])),(.val (.tuple #[])),(.val (.tuple #[])),(.val (.tuple #[])),(.val (.tuple #[])),(.val (.tuple #[])),(.val (.tuple #[])),(.val (.tuple #[])),(.val (.tuple #[])),(.val (.tuple #[])),(.val (.tuple #[]))] #[15,16] dW dk),(.cells [(.map 2)])],(tl)⟩)))))):=by kernel_rfl
theorem Fj (lk lk2:bG) (es es2:bv) (ck ck2:Nat) (S:Bs) (x:TV) (tl:bF) (Q:TV→VT→Prop):an Try.prog ae (aG [(tf,vg),(qV,vh)]) (aH [(999998, .dead,none)]) 300 (DG lk lk2 es es2 ck ck2 S x tl (aq Try.prog b9 0)) 0 b9 [.yld 7, .ptr 5 0] ⟨tv lk lk2 es es2 ck ck2 j3, []⟩ Q=
 ((((@Eq (Nat) 108 108)∧
 ((@Eq (Bool) true true)∧
 (@Eq (Bool) true true)))∧
 AB ⟨true, [(.int .u32),(.int .i64)]⟩ (lk) (es) (ck))∧
 (∀L:Bs,(AC (es) (L)→(AD (L)∧
 ((aq Try.prog b9 (0:Nat)=aq Try.prog b9 (0:Nat))∧
 (((@Eq (Option Nat) .none .none)∧
 ((@Eq (Nat) 0 0)∧
 ((@Eq (List Nat) [] [])∧
 (True  ∧
 ((@Eq (VT) ⟨[(.cells [(.map 1),(.map 2)]),(.map ⟨true, [(.int .u32),(.int .i64)]⟩ (lk) (es) (ck)),(.map ⟨true, [(.int .u32),(.int .i64)]⟩ (lk2) (es2) (ck2)),(.cells [(.ptr 0 0)]),(.cells [(.val (.slice .none 0 0))]),(.cells [(.map 1)]), .defd,(.loop .ready .none [(.ptr 0 0),(.ptr 3 0),(.val (.slice .none 0 0)),(.ptr 4 0),(.val (.tuple #[])),(.val (.tuple #[])),(.val (.tuple #[])),(.val (.tuple #[])),(.ptr 0 0),(.val (.bool true)),(.val (.bool false)),(.ptr 0 0),(.ptr 0 0),(.ptr 0 0),(.map 1),(.fn (.func 74) [] [(.ptr 5 0)]),(.val (.tuple #[])),(.val (.tuple #[])),(.val (.tuple #[])),(.val (.tuple #[])),(.val (.tuple #[])),(.val (.tuple #[])),(.val (.tuple #[])),(.val (.tuple #[])),(.val (.tuple #[])),(.val (.tuple #[])),(.val (.tuple #[])),(.val (.tuple #[])),(.val (.tuple #[])),(.val (.tuple #[])),(.val (.tuple #[])),(.val (.tuple #[])),(.val (.tuple #[])),(.val (.tuple #[])),(.val (.tuple #[])),(.val (.tuple #[])),(.val (.tuple #[])),(.val (.tuple #[])),(.val (.tuple #[])),(.val (.tuple #[])),(.val (.tuple #[])),(.val (.tuple #[])),(.val (.tuple #[]))] #[16,17] dn cL),(.cells [(.map 1)])], []⟩ ⟨[(.cells [(.map 1),(.map 2)]),(.map ⟨true, [(.int .u32),(.int .i64)]⟩ (lk) (es) (ck)),(.map ⟨true, [(.int .u32),(.int .i64)]⟩ (lk2) (es2) (ck2)),(.cells [(.ptr 0 0)]),(.cells [(.val (.slice .none 0 0))]),(.cells [(.map 1)]), .defd,(.loop .ready .none [(.ptr 0 0),(.ptr 3 0),(.val (.slice .none 0 0)),(.ptr 4 0),(.val (.tuple #[])),(.val (.tuple #[])),(.val (.tuple #[])),(.val (.tuple #[])),(.ptr 0 0),(.val (.bool true)),(.val (.bool false)),(.ptr 0 0),(.ptr 0 0),(.ptr 0 0),(.map 1),(.fn (.func 74) [] [(.ptr 5 0)]),(.val (.tuple #[])),(.val (.tuple #[])),(.val (.tuple #[])),(.val (.tuple #[])),(.val (.tuple #[])),(.val (.tuple #[])),(.val (.tuple #[])),(.val (.tuple #[])),(.val (.tuple #[])),(.val (.tuple #[])),(.val (.tuple #[])),(.val (.tuple #[])),(.val (.tuple #[])),(.val (.tuple #[])),(.val (.tuple #[])),(.val (.tuple #[])),(.val (.tuple #[])),(.val (.tuple #[])),(.val (.tuple #[])),(.val (.tuple #[])),(.val (.tuple #[])),(.val (.tuple #[])),(.val (.tuple #[])),(.val (.tuple #[])),(.val (.tuple #[])),(.val (.tuple #[])),(.val (.tuple #[]))] #[16,17] dn cL),(.cells [(.map 1)])], []⟩)∧
 ((@Eq (Bool) true true)∧
 (@Eq (List TV) [(.yld 7),(.ptr 5 0),(.vec 2 (nJ L) .none),(.val (.int .i64 ((↑(List.length (nJ L)):Int)))),(.val (.int .i64 0))] [(.yld 7),(.ptr 5 0),(.vec 2 (S) .none),(.val (.int .i64 ((↑(List.length S):Int)))),(.val (.int .i64 0))])))))))∧
 Q (.tup []) ⟨[(.cells [(.map 1),(.map 2)]),(.map ⟨true, [(.int .u32),(.int .i64)]⟩ (lk) (es) (ck)),(.map ⟨true, [(.int .u32),(.int .i64)]⟩ (lk2) (es2) (ck2)),(.cells [(.ptr 0 0)]),(.cells [(x)]),(.cells [(.map 1)]), .defd,(.loop .ready .none [(.ptr 0 0),(.ptr 3 0),(.val (.slice .none 0 0)),(.ptr 4 0),(.val (.tuple #[])),(.val (.tuple #[])),(.val (.tuple #[])),(.val (.tuple #[])),(.ptr 0 0),(.val (.bool true)),(.val (.bool false)),(.ptr 0 0),(.ptr 0 0),(.ptr 0 0),(.map 1),(.fn (.func 74) [] [(.ptr 5 0)]),(.val (.tuple #[])),(.val (.tuple #[])),(.val (.tuple #[])),(.val (.tuple #[])),(.val (.tuple #[])),(.val (.tuple #[])),(.val (.tuple #[])),(.val (.tuple #[])),(.val (.tuple #[])),(.val (.tuple #[])),(.val (.tuple #[])),(.val (.tuple #[])),(.val (.tuple #[])),(.val (.tuple #[])),(.val (.tuple #[])),(.val (.tuple #[])),(.val (.tuple #[])),(.val (.tuple #[])),(.val (.tuple #[])),(.val (.tuple #[])),(.val (.tuple #[])),(.val (.tuple #[])),(.val (.tuple #[])),(.val (.tuple #[])),(.val (.tuple #[])),(.val (.tuple #[])),(.val (.tuple #[]))] #[16,17] dn cL),(.cells [(.map 1)])],(tl)⟩)))))):=by kernel_rfl
theorem yy (lk lk2:bG) (es es2:bv) (ck ck2:Nat) (S:Bs) (x1:TV) (tl:bF) (j:Nat) (a n:Int) (y z:AtV) (Q:Exit→List TV→VT→List Nat→Nat→Prop):vx Try.prog ae aO (aH [(12, .elt [.val (.int .u32 a), .val (.int .i64 n)],none)]) 300 (jY 999997 (fun _ _ _ _ _ _=>False, .skip) 1000003 (mI Try.prog ae aO (aH [(999998, .dead,none),(18, .agg y.cells,none)]) (aH [(999998, .dead,none),(23, .tup [.agg z.cells, .val (.bool true)],none)]) 250 (aR Try.prog b9 3),aR Try.prog b9 3)) none 0 (bR Try.prog b9 0) (aL 22 gC (gj S j)) (lW lk lk2 es es2 ck ck2 x1 tl) [] (cz gC Q)=
 (bif decide ((↑j:Int)<(↑(List.length S):Int))
 then (bb Try.prog (fun _=> .none) (.indexAddr 42 (.tmp 8) (.tmp 10)) [(8,(.vec 2 (S) .none)),(10,(.val (.int .i64 ((↑j:Int)))))] (.elt [(.val (.int .u32 (a))),(.val (.int .i64 (n)))])∧
 ((aR Try.prog b9 (3:Nat)=aR Try.prog b9 (3:Nat))∧
 (fE Try.prog (fun _=> .none) ⟨[(.cells [(.map 1),(.map 2)]),(.map ⟨true, [(.int .u32),(.int .i64)]⟩ (lk) (es) (ck)),(.map ⟨true, [(.int .u32),(.int .i64)]⟩ (lk2) (es2) (ck2)),(.cells [(.ptr 0 0)]),(.cells [(x1)]),(.cells [(.map 2)]), .defd,(.loop .ready .none [(.ptr 0 0),(.ptr 3 0),(.val (.slice .none 0 0)),(.ptr 4 0),(.val (.tuple #[])),(.val (.tuple #[])),(.val (.tuple #[])),(.ptr 0 0),(.val (.bool true)),(.val (.bool false)),(.ptr 0 0),(.ptr 0 0),(.ptr 0 1),(.map 2),(.fn (.func 74) [] [(.ptr 5 0)]),(.val (.tuple #[])),(.val (.tuple #[])),(.val (.tuple #[])),(.val (.tuple #[])),(.val (.tuple #[])),(.val (.tuple #[])),(.val (.tuple #[])),(.val (.tuple #[])),(.val (.tuple #[])),(.val (.tuple #[])),(.val (.tuple #[])),(.val (.tuple #[])),(.val (.tuple #[])),(.val (.tuple #[])),(.val (.tuple #[])),(.val (.tuple #[])),(.val (.tuple #[])),(.val (.tuple #[]))] #[15,16] dW dk),(.cells [(.map 2)]),(.cells [(.val (.int .u32 (a))),(.val (.int .i64 (n)))])],(tl)⟩ false (.lookup 73 (.tmp 16) (.tmp 17) false) [(16,(.map 2)),(17,(.agg [(.val (.int .u32 (a))),(.val (.int .i64 (n)))]))] (.agg [(.val (.int .i64 (AtV.o y))),(.vec 1 (iV (AtV.p y)) .none),(.val (.int .u32 (AtV.h y))),(.val (.int .i64 (AtV.m y))),(.val (.bool (AtV.hm y)))])∧
 (iD Try.prog ⟨[(.cells [(.map 1),(.map 2)]),(.map ⟨true, [(.int .u32),(.int .i64)]⟩ (lk) (es) (ck)),(.map ⟨true, [(.int .u32),(.int .i64)]⟩ (lk2) (es2) (ck2)),(.cells [(.ptr 0 0)]),(.cells [(x1)]),(.cells [(.map 2)]), .defd,(.loop .busy .none [(.ptr 0 0),(.ptr 3 0),(.val (.slice .none 0 0)),(.ptr 4 0),(.val (.tuple #[])),(.val (.tuple #[])),(.val (.tuple #[])),(.ptr 0 0),(.val (.bool true)),(.val (.bool false)),(.ptr 0 0),(.ptr 0 0),(.ptr 0 1),(.map 2),(.fn (.func 74) [] [(.ptr 5 0)]),(.val (.tuple #[])),(.val (.tuple #[])),(.val (.tuple #[])),(.val (.tuple #[])),(.val (.tuple #[])),(.val (.tuple #[])),(.val (.tuple #[])),(.val (.tuple #[])),(.val (.tuple #[])),(.val (.tuple #[])),(.val (.tuple #[])),(.val (.tuple #[])),(.val (.tuple #[])),(.val (.tuple #[])),(.val (.tuple #[])),(.val (.tuple #[])),(.val (.tuple #[])),(.val (.tuple #[]))] #[15,16] dW dk),(.cells [(.map 2)]),(.cells [(.val (.int .u32 (a))),(.val (.int .i64 (n)))]),(.cells [(.val (.int .u32 (a))),(.val (.int .i64 (n)))])],(tl)⟩ 73 (.map 1) (.agg [(.val (.int .u32 (a))),(.val (.int .i64 (n)))]) true (.tup [(.agg [(.val (.int .i64 (AtV.o z))),(.vec 1 (iV (AtV.p z)) .none),(.val (.int .u32 (AtV.h z))),(.val (.int .i64 (AtV.m z))),(.val (.bool (AtV.hm z)))]),(.val (.bool true))])∧
 Q .normal [(.yld 7),(.ptr 5 0),(.vec 2 (S) .none),(.val (.int .i64 ((↑(List.length S):Int)))),(.val (.int .i64 (IntKind.wrap IntKind.i64 ((↑j:Int)+(1:Int)))))] ⟨[(.cells [(.map 1),(.map 2)]),(.map ⟨true, [(.int .u32),(.int .i64)]⟩ (lk) (es) (ck)),(.map ⟨true, [(.int .u32),(.int .i64)]⟩ (lk2) (es2) (ck2)),(.cells [(.ptr 0 0)]),(.cells [(x1)]),(.cells [(.map 2)]), .defd,(.loop .ready .none [(.ptr 0 0),(.ptr 3 0),(.val (.slice .none 0 0)),(.ptr 4 0),(.val (.tuple #[])),(.val (.tuple #[])),(.val (.tuple #[])),(.ptr 0 0),(.val (.bool true)),(.val (.bool false)),(.ptr 0 0),(.ptr 0 0),(.ptr 0 1),(.map 2),(.fn (.func 74) [] [(.ptr 5 0)]),(.val (.tuple #[])),(.val (.tuple #[])),(.val (.tuple #[])),(.val (.tuple #[])),(.val (.tuple #[])),(.val (.tuple #[])),(.val (.tuple #[])),(.val (.tuple #[])),(.val (.tuple #[])),(.val (.tuple #[])),(.val (.tuple #[])),(.val (.tuple #[])),(.val (.tuple #[])),(.val (.tuple #[])),(.val (.tuple #[])),(.val (.tuple #[])),(.val (.tuple #[])),(.val (.tuple #[]))] #[15,16] dW dk),(.cells [(.map 2)]),(.cells [(.val (.int .u32 (a))),(.val (.int .i64 (n)))]),(.cells [(.val (.int .u32 (a))),(.val (.int .i64 (n)))]),(.cells [(.val (.int .i64 (AtV.o z))),(.vec 1 (iV (AtV.p z)) .none),(.val (.int .u32 (AtV.h z))),(.val (.int .i64 (AtV.m z))),(.val (.bool (AtV.hm z)))])],(tl)⟩ [] 22))))
 else Q (.exit 0) [(.yld 7),(.ptr 5 0),(.vec 2 (S) .none),(.val (.int .i64 ((↑(List.length S):Int)))),(.val (.int .i64 ((↑j:Int))))] ⟨[(.cells [(.map 1),(.map 2)]),(.map ⟨true, [(.int .u32),(.int .i64)]⟩ (lk) (es) (ck)),(.map ⟨true, [(.int .u32),(.int .i64)]⟩ (lk2) (es2) (ck2)),(.cells [(.ptr 0 0)]),(.cells [(x1)]),(.cells [(.map 2)]), .defd,(.loop .ready .none [(.ptr 0 0),(.ptr 3 0),(.val (.slice .none 0 0)),(.ptr 4 0),(.val (.tuple #[])),(.val (.tuple #[])),(.val (.tuple #[])),(.ptr 0 0),(.val (.bool true)),(.val (.bool false)),(.ptr 0 0),(.ptr 0 0),(.ptr 0 1),(.map 2),(.fn (.func 74) [] [(.ptr 5 0)]),(.val (.tuple #[])),(.val (.tuple #[])),(.val (.tuple #[])),(.val (.tuple #[])),(.val (.tuple #[])),(.val (.tuple #[])),(.val (.tuple #[])),(.val (.tuple #[])),(.val (.tuple #[])),(.val (.tuple #[])),(.val (.tuple #[])),(.val (.tuple #[])),(.val (.tuple #[])),(.val (.tuple #[])),(.val (.tuple #[])),(.val (.tuple #[])),(.val (.tuple #[])),(.val (.tuple #[]))] #[15,16] dW dk),(.cells [(.map 2)])],(tl)⟩ [] 22):=by kernel_rfl
theorem DL (lk lk2:bG) (es es2:bv) (ck ck2:Nat) (S:Bs) (x1:TV) (l1:Bs) (tk1:Tok) (tl tl2:bF) (j:Nat) (a n:Int) (y:AtV) (Q:Exit→List TV→VT→List Nat→Nat→Prop):vx Try.prog ae aO (aH [(12, .elt [.val (.int .u32 a), .val (.int .i64 n)],none)]) 300 (jY 999997 (fun _ _ _ _ _ _=>False, .skip) 1000003 (mI Try.prog ae aO (aH [(999998, .dead,none),(18, .agg y.cells,none)]) (aH [(999998, .dead,none),(23, .tup [.agg [.val (.int .i64 0), .val (.slice none 0 0), .val (.int .u32 0), .val (.int .i64 0), .val (.bool false)], .val (.bool false)],none),(31, .vec 2 l1 tk1,some fun T=>{T with tails:=tl2})]) 250 (aR Try.prog b9 3),aR Try.prog b9 3)) none 0 (bR Try.prog b9 0) (aL 22 gC (gj S j)) (lW lk lk2 es es2 ck ck2 x1 tl) [] (cz gC Q)=
 (bif decide ((↑j:Int)<(↑(List.length S):Int))
 then (bb Try.prog (fun _=> .none) (.indexAddr 42 (.tmp 8) (.tmp 10)) [(8,(.vec 2 (S) .none)),(10,(.val (.int .i64 ((↑j:Int)))))] (.elt [(.val (.int .u32 (a))),(.val (.int .i64 (n)))])∧
 ((aR Try.prog b9 (3:Nat)=aR Try.prog b9 (3:Nat))∧
 (fE Try.prog (fun _=> .none) ⟨[(.cells [(.map 1),(.map 2)]),(.map ⟨true, [(.int .u32),(.int .i64)]⟩ (lk) (es) (ck)),(.map ⟨true, [(.int .u32),(.int .i64)]⟩ (lk2) (es2) (ck2)),(.cells [(.ptr 0 0)]),(.cells [(x1)]),(.cells [(.map 2)]), .defd,(.loop .ready .none [(.ptr 0 0),(.ptr 3 0),(.val (.slice .none 0 0)),(.ptr 4 0),(.val (.tuple #[])),(.val (.tuple #[])),(.val (.tuple #[])),(.ptr 0 0),(.val (.bool true)),(.val (.bool false)),(.ptr 0 0),(.ptr 0 0),(.ptr 0 1),(.map 2),(.fn (.func 74) [] [(.ptr 5 0)]),(.val (.tuple #[])),(.val (.tuple #[])),(.val (.tuple #[])),(.val (.tuple #[])),(.val (.tuple #[])),(.val (.tuple #[])),(.val (.tuple #[])),(.val (.tuple #[])),(.val (.tuple #[])),(.val (.tuple #[])),(.val (.tuple #[])),(.val (.tuple #[])),(.val (.tuple #[])),(.val (.tuple #[])),(.val (.tuple #[])),(.val (.tuple #[])),(.val (.tuple #[])),(.val (.tuple #[]))] #[15,16] dW dk),(.cells [(.map 2)]),(.cells [(.val (.int .u32 (a))),(.val (.int .i64 (n)))])],(tl)⟩ false (.lookup 73 (.tmp 16) (.tmp 17) false) [(16,(.map 2)),(17,(.agg [(.val (.int .u32 (a))),(.val (.int .i64 (n)))]))] (.agg [(.val (.int .i64 (AtV.o y))),(.vec 1 (iV (AtV.p y)) .none),(.val (.int .u32 (AtV.h y))),(.val (.int .i64 (AtV.m y))),(.val (.bool (AtV.hm y)))])∧
 (iD Try.prog ⟨[(.cells [(.map 1),(.map 2)]),(.map ⟨true, [(.int .u32),(.int .i64)]⟩ (lk) (es) (ck)),(.map ⟨true, [(.int .u32),(.int .i64)]⟩ (lk2) (es2) (ck2)),(.cells [(.ptr 0 0)]),(.cells [(x1)]),(.cells [(.map 2)]), .defd,(.loop .busy .none [(.ptr 0 0),(.ptr 3 0),(.val (.slice .none 0 0)),(.ptr 4 0),(.val (.tuple #[])),(.val (.tuple #[])),(.val (.tuple #[])),(.ptr 0 0),(.val (.bool true)),(.val (.bool false)),(.ptr 0 0),(.ptr 0 0),(.ptr 0 1),(.map 2),(.fn (.func 74) [] [(.ptr 5 0)]),(.val (.tuple #[])),(.val (.tuple #[])),(.val (.tuple #[])),(.val (.tuple #[])),(.val (.tuple #[])),(.val (.tuple #[])),(.val (.tuple #[])),(.val (.tuple #[])),(.val (.tuple #[])),(.val (.tuple #[])),(.val (.tuple #[])),(.val (.tuple #[])),(.val (.tuple #[])),(.val (.tuple #[])),(.val (.tuple #[])),(.val (.tuple #[])),(.val (.tuple #[])),(.val (.tuple #[]))] #[15,16] dW dk),(.cells [(.map 2)]),(.cells [(.val (.int .u32 (a))),(.val (.int .i64 (n)))]),(.cells [(.val (.int .u32 (a))),(.val (.int .i64 (n)))])],(tl)⟩ 73 (.map 1) (.agg [(.val (.int .u32 (a))),(.val (.int .i64 (n)))]) true (.tup [(.agg [(.val (.int .i64 0)),(.val (.slice .none 0 0)),(.val (.int .u32 0)),(.val (.int .i64 0)),(.val (.bool false))]),(.val (.bool false))])∧
 (bE Try.prog (fun _=> .none) 0 ⟨[(.cells [(.map 1),(.map 2)]),(.map ⟨true, [(.int .u32),(.int .i64)]⟩ (lk) (es) (ck)),(.map ⟨true, [(.int .u32),(.int .i64)]⟩ (lk2) (es2) (ck2)),(.cells [(.ptr 0 0)]),(.cells [(x1)]),(.cells [(.map 2)]), .defd,(.loop .busy .none [(.ptr 0 0),(.ptr 3 0),(.val (.slice .none 0 0)),(.ptr 4 0),(.val (.tuple #[])),(.val (.tuple #[])),(.val (.tuple #[])),(.ptr 0 0),(.val (.bool true)),(.val (.bool false)),(.ptr 0 0),(.ptr 0 0),(.ptr 0 1),(.map 2),(.fn (.func 74) [] [(.ptr 5 0)]),(.val (.tuple #[])),(.val (.tuple #[])),(.val (.tuple #[])),(.val (.tuple #[])),(.val (.tuple #[])),(.val (.tuple #[])),(.val (.tuple #[])),(.val (.tuple #[])),(.val (.tuple #[])),(.val (.tuple #[])),(.val (.tuple #[])),(.val (.tuple #[])),(.val (.tuple #[])),(.val (.tuple #[])),(.val (.tuple #[])),(.val (.tuple #[])),(.val (.tuple #[])),(.val (.tuple #[]))] #[15,16] dW dk),(.cells [(.map 2)]),(.cells [(.val (.int .u32 (a))),(.val (.int .i64 (n)))]),(.cells [(.val (.int .u32 (a))),(.val (.int .i64 (n)))]),(.cells [(.val (.int .i64 0)),(.val (.slice .none 0 0)),(.val (.int .u32 0)),(.val (.int .i64 0)),(.val (.bool false))])],(tl)⟩ (.call ⟨(.builtin .append), #[(.tmp 28),(.tmp 30)], #[42,42]⟩) [(28,(x1)),(30,(.vec 2 [[(.val (.int .u32 (a))),(.val (.int .i64 (n)))]] .full))] (.vec 2 (l1) (tk1)) ⟨[(.cells [(.map 1),(.map 2)]),(.map ⟨true, [(.int .u32),(.int .i64)]⟩ (lk) (es) (ck)),(.map ⟨true, [(.int .u32),(.int .i64)]⟩ (lk2) (es2) (ck2)),(.cells [(.ptr 0 0)]),(.cells [(x1)]),(.cells [(.map 2)]), .defd,(.loop .busy .none [(.ptr 0 0),(.ptr 3 0),(.val (.slice .none 0 0)),(.ptr 4 0),(.val (.tuple #[])),(.val (.tuple #[])),(.val (.tuple #[])),(.ptr 0 0),(.val (.bool true)),(.val (.bool false)),(.ptr 0 0),(.ptr 0 0),(.ptr 0 1),(.map 2),(.fn (.func 74) [] [(.ptr 5 0)]),(.val (.tuple #[])),(.val (.tuple #[])),(.val (.tuple #[])),(.val (.tuple #[])),(.val (.tuple #[])),(.val (.tuple #[])),(.val (.tuple #[])),(.val (.tuple #[])),(.val (.tuple #[])),(.val (.tuple #[])),(.val (.tuple #[])),(.val (.tuple #[])),(.val (.tuple #[])),(.val (.tuple #[])),(.val (.tuple #[])),(.val (.tuple #[])),(.val (.tuple #[])),(.val (.tuple #[]))] #[15,16] dW dk),(.cells [(.map 2)]),(.cells [(.val (.int .u32 (a))),(.val (.int .i64 (n)))]),(.cells [(.val (.int .u32 (a))),(.val (.int .i64 (n)))]),(.cells [(.val (.int .i64 0)),(.val (.slice .none 0 0)),(.val (.int .u32 0)),(.val (.int .i64 0)),(.val (.bool false))])],(tl2)⟩∧
 Q .normal [(.yld 7),(.ptr 5 0),(.vec 2 (S) .none),(.val (.int .i64 ((↑(List.length S):Int)))),(.val (.int .i64 (IntKind.wrap IntKind.i64 ((↑j:Int)+(1:Int)))))] ⟨[(.cells [(.map 1),(.map 2)]),(.map ⟨true, [(.int .u32),(.int .i64)]⟩ (lk) (es) (ck)),(.map ⟨true, [(.int .u32),(.int .i64)]⟩ (lk2) (es2) (ck2)),(.cells [(.ptr 0 0)]),(.cells [(.vec 2 (l1) (tk1))]),(.cells [(.map 2)]), .defd,(.loop .ready .none [(.ptr 0 0),(.ptr 3 0),(.val (.slice .none 0 0)),(.ptr 4 0),(.val (.tuple #[])),(.val (.tuple #[])),(.val (.tuple #[])),(.ptr 0 0),(.val (.bool true)),(.val (.bool false)),(.ptr 0 0),(.ptr 0 0),(.ptr 0 1),(.map 2),(.fn (.func 74) [] [(.ptr 5 0)]),(.val (.tuple #[])),(.val (.tuple #[])),(.val (.tuple #[])),(.val (.tuple #[])),(.val (.tuple #[])),(.val (.tuple #[])),(.val (.tuple #[])),(.val (.tuple #[])),(.val (.tuple #[])),(.val (.tuple #[])),(.val (.tuple #[])),(.val (.tuple #[])),(.val (.tuple #[])),(.val (.tuple #[])),(.val (.tuple #[])),(.val (.tuple #[])),(.val (.tuple #[])),(.val (.tuple #[]))] #[15,16] dW dk),(.cells [(.map 2)]),(.cells [(.val (.int .u32 (a))),(.val (.int .i64 (n)))]),(.cells [(.val (.int .u32 (a))),(.val (.int .i64 (n)))]),(.cells [(.val (.int .i64 0)),(.val (.slice .none 0 0)),(.val (.int .u32 0)),(.val (.int .i64 0)),(.val (.bool false))])],(tl2)⟩ [] 22)))))
 else Q (.exit 0) [(.yld 7),(.ptr 5 0),(.vec 2 (S) .none),(.val (.int .i64 ((↑(List.length S):Int)))),(.val (.int .i64 ((↑j:Int))))] ⟨[(.cells [(.map 1),(.map 2)]),(.map ⟨true, [(.int .u32),(.int .i64)]⟩ (lk) (es) (ck)),(.map ⟨true, [(.int .u32),(.int .i64)]⟩ (lk2) (es2) (ck2)),(.cells [(.ptr 0 0)]),(.cells [(x1)]),(.cells [(.map 2)]), .defd,(.loop .ready .none [(.ptr 0 0),(.ptr 3 0),(.val (.slice .none 0 0)),(.ptr 4 0),(.val (.tuple #[])),(.val (.tuple #[])),(.val (.tuple #[])),(.ptr 0 0),(.val (.bool true)),(.val (.bool false)),(.ptr 0 0),(.ptr 0 0),(.ptr 0 1),(.map 2),(.fn (.func 74) [] [(.ptr 5 0)]),(.val (.tuple #[])),(.val (.tuple #[])),(.val (.tuple #[])),(.val (.tuple #[])),(.val (.tuple #[])),(.val (.tuple #[])),(.val (.tuple #[])),(.val (.tuple #[])),(.val (.tuple #[])),(.val (.tuple #[])),(.val (.tuple #[])),(.val (.tuple #[])),(.val (.tuple #[])),(.val (.tuple #[])),(.val (.tuple #[])),(.val (.tuple #[])),(.val (.tuple #[])),(.val (.tuple #[]))] #[15,16] dW dk),(.cells [(.map 2)])],(tl)⟩ [] 22):=by kernel_rfl
theorem DM (lk lk2:bG) (es es2:bv) (ck ck2:Nat) (S:Bs) (x1:TV) (l1:Bs) (tk1:Tok) (tl tl2:bF) (j:Nat) (a n:Int) (y z:AtV) (ok:Bool) (Q:Exit→List TV→VT→List Nat→Nat→Prop):vx Try.prog ae aO (aH [(12, .elt [.val (.int .u32 a), .val (.int .i64 n)],none)]) 300 (jY 999997 (fun _ _ _ _ _ _=>False, .skip) 1000003 (mI Try.prog ae (aG [(nH,uY ok),(iv,kF)]) (aH [(999998, .dead,none),(18, .agg y.cells,none)]) (aH [(999998, .dead,none),(24, .tup [.agg z.cells, .val (.bool true)],none),(41, .vec 8 l1 tk1,some fun T=>{T with tails:=tl2})]) 250 (aR Try.prog b9 3),aR Try.prog b9 3)) none 0 (bR Try.prog b9 0) (aL 22 gC (gj S j)) (kG lk lk2 es es2 ck ck2 x1 tl) [] (cz gC Q)=
 (bif decide ((↑j:Int)<(↑(List.length S):Int))
 then (bb Try.prog (fun _=> .none) (.indexAddr 42 (.tmp 8) (.tmp 10)) [(8,(.vec 2 (S) .none)),(10,(.val (.int .i64 ((↑j:Int)))))] (.elt [(.val (.int .u32 (a))),(.val (.int .i64 (n)))])∧
 ((aR Try.prog b9 (3:Nat)=aR Try.prog b9 (3:Nat))∧
 (fE Try.prog (fun _=> .none) ⟨[(.cells [(.map 1),(.map 2)]),(.map ⟨true, [(.int .u32),(.int .i64)]⟩ (lk) (es) (ck)),(.map ⟨true, [(.int .u32),(.int .i64)]⟩ (lk2) (es2) (ck2)),(.cells [(.ptr 0 0)]),(.cells [(x1)]),(.cells [(.map 1)]), .defd,(.loop .ready .none [(.ptr 0 0),(.ptr 3 0),(.val (.slice .none 0 0)),(.ptr 4 0),(.val (.tuple #[])),(.val (.tuple #[])),(.val (.tuple #[])),(.val (.tuple #[])),(.ptr 0 0),(.val (.bool true)),(.val (.bool false)),(.ptr 0 0),(.ptr 0 0),(.ptr 0 0),(.map 1),(.fn (.func 74) [] [(.ptr 5 0)]),(.val (.tuple #[])),(.val (.tuple #[])),(.val (.tuple #[])),(.val (.tuple #[])),(.val (.tuple #[])),(.val (.tuple #[])),(.val (.tuple #[])),(.val (.tuple #[])),(.val (.tuple #[])),(.val (.tuple #[])),(.val (.tuple #[])),(.val (.tuple #[])),(.val (.tuple #[])),(.val (.tuple #[])),(.val (.tuple #[])),(.val (.tuple #[])),(.val (.tuple #[])),(.val (.tuple #[])),(.val (.tuple #[])),(.val (.tuple #[])),(.val (.tuple #[])),(.val (.tuple #[])),(.val (.tuple #[])),(.val (.tuple #[])),(.val (.tuple #[])),(.val (.tuple #[])),(.val (.tuple #[]))] #[16,17] dn cL),(.cells [(.map 1)]),(.cells [(.val (.int .u32 (a))),(.val (.int .i64 (n)))])],(tl)⟩ false (.lookup 73 (.tmp 16) (.tmp 17) false) [(16,(.map 1)),(17,(.agg [(.val (.int .u32 (a))),(.val (.int .i64 (n)))]))] (.agg [(.val (.int .i64 (AtV.o y))),(.vec 1 (iV (AtV.p y)) .none),(.val (.int .u32 (AtV.h y))),(.val (.int .i64 (AtV.m y))),(.val (.bool (AtV.hm y)))])∧
 (iD Try.prog ⟨[(.cells [(.map 1),(.map 2)]),(.map ⟨true, [(.int .u32),(.int .i64)]⟩ (lk) (es) (ck)),(.map ⟨true, [(.int .u32),(.int .i64)]⟩ (lk2) (es2) (ck2)),(.cells [(.ptr 0 0)]),(.cells [(x1)]),(.cells [(.map 1)]), .defd,(.loop .busy .none [(.ptr 0 0),(.ptr 3 0),(.val (.slice .none 0 0)),(.ptr 4 0),(.val (.tuple #[])),(.val (.tuple #[])),(.val (.tuple #[])),(.val (.tuple #[])),(.ptr 0 0),(.val (.bool true)),(.val (.bool false)),(.ptr 0 0),(.ptr 0 0),(.ptr 0 0),(.map 1),(.fn (.func 74) [] [(.ptr 5 0)]),(.val (.tuple #[])),(.val (.tuple #[])),(.val (.tuple #[])),(.val (.tuple #[])),(.val (.tuple #[])),(.val (.tuple #[])),(.val (.tuple #[])),(.val (.tuple #[])),(.val (.tuple #[])),(.val (.tuple #[])),(.val (.tuple #[])),(.val (.tuple #[])),(.val (.tuple #[])),(.val (.tuple #[])),(.val (.tuple #[])),(.val (.tuple #[])),(.val (.tuple #[])),(.val (.tuple #[])),(.val (.tuple #[])),(.val (.tuple #[])),(.val (.tuple #[])),(.val (.tuple #[])),(.val (.tuple #[])),(.val (.tuple #[])),(.val (.tuple #[])),(.val (.tuple #[])),(.val (.tuple #[]))] #[16,17] dn cL),(.cells [(.map 1)]),(.cells [(.val (.int .u32 (a))),(.val (.int .i64 (n)))]),(.cells [(.val (.int .u32 (a))),(.val (.int .i64 (n)))]),(.cells [(.val (.int .i64 (AtV.o y))),(.vec 1 (iV (AtV.p y)) .none),(.val (.int .u32 (AtV.h y))),(.val (.int .i64 (AtV.m y))),(.val (.bool (AtV.hm y)))])],(tl)⟩ 73 (.map 2) (.agg [(.val (.int .u32 (a))),(.val (.int .i64 (n)))]) true (.tup [(.agg [(.val (.int .i64 (AtV.o z))),(.vec 1 (iV (AtV.p z)) .none),(.val (.int .u32 (AtV.h z))),(.val (.int .i64 (AtV.m z))),(.val (.bool (AtV.hm z)))]),(.val (.bool true))])∧
 (Ar [(.val (.int .i64 (AtV.o y))),(.vec 1 (iV (AtV.p y)) .none),(.val (.int .u32 (AtV.h y))),(.val (.int .i64 (AtV.m y))),(.val (.bool (AtV.hm y)))] [(.val (.int .i64 (AtV.o z))),(.vec 1 (iV (AtV.p z)) .none),(.val (.int .u32 (AtV.h z))),(.val (.int .i64 (AtV.m z))),(.val (.bool (AtV.hm z)))] (ok)∧
 (bif !ok
 then (ly [(.val (.int .i64 (AtV.o y))),(.vec 1 (iV (AtV.p y)) .none),(.val (.int .u32 (AtV.h y))),(.val (.int .i64 (AtV.m y))),(.val (.bool (AtV.hm y)))]∧
 (((@Eq (Option TV) (.some (.agg [(.val (.int .i64 (AtV.o y))),(.vec 1 (iV (AtV.p y)) .none),(.val (.int .u32 (AtV.h y))),(.val (.int .i64 (AtV.m y))),(.val (.bool (AtV.hm y)))])) (.some (.agg [(.val (.int .i64 (AtV.o y))),(.vec 1 (iV (AtV.p y)) .none),(.val (.int .u32 (AtV.h y))),(.val (.int .i64 (AtV.m y))),(.val (.bool (AtV.hm y)))])))∧
 ((@Eq (Option TV) (.some (.agg [(.val (.int .u32 (a))),(.val (.int .i64 (n)))])) (.some (.agg [(.val (.int .u32 (a))),(.val (.int .i64 (n)))])))∧
 ((@Eq (Option TV) (.some (x1)) (.some (x1)))∧
 True)))∧
 (bE Try.prog (fun _=> .none) 0 ⟨[(.cells [(.map 1),(.map 2)]),(.map ⟨true, [(.int .u32),(.int .i64)]⟩ (lk) (es) (ck)),(.map ⟨true, [(.int .u32),(.int .i64)]⟩ (lk2) (es2) (ck2)),(.cells [(.ptr 0 0)]),(.cells [(x1)]),(.cells [(.map 1)]), .defd,(.loop .busy .none [(.ptr 0 0),(.ptr 3 0),(.val (.slice .none 0 0)),(.ptr 4 0),(.val (.tuple #[])),(.val (.tuple #[])),(.val (.tuple #[])),(.val (.tuple #[])),(.ptr 0 0),(.val (.bool true)),(.val (.bool false)),(.ptr 0 0),(.ptr 0 0),(.ptr 0 0),(.map 1),(.fn (.func 74) [] [(.ptr 5 0)]),(.val (.tuple #[])),(.val (.tuple #[])),(.val (.tuple #[])),(.val (.tuple #[])),(.val (.tuple #[])),(.val (.tuple #[])),(.val (.tuple #[])),(.val (.tuple #[])),(.val (.tuple #[])),(.val (.tuple #[])),(.val (.tuple #[])),(.val (.tuple #[])),(.val (.tuple #[])),(.val (.tuple #[])),(.val (.tuple #[])),(.val (.tuple #[])),(.val (.tuple #[])),(.val (.tuple #[])),(.val (.tuple #[])),(.val (.tuple #[])),(.val (.tuple #[])),(.val (.tuple #[])),(.val (.tuple #[])),(.val (.tuple #[])),(.val (.tuple #[])),(.val (.tuple #[])),(.val (.tuple #[]))] #[16,17] dn cL),(.cells [(.map 1)]),(.cells [(.val (.int .u32 (a))),(.val (.int .i64 (n)))]),(.cells [(.val (.int .u32 (a))),(.val (.int .i64 (n)))]),(.cells [(.val (.int .i64 (AtV.o y))),(.vec 1 (iV (AtV.p y)) .none),(.val (.int .u32 (AtV.h y))),(.val (.int .i64 (AtV.m y))),(.val (.bool (AtV.hm y)))]),(.cells [(.val (.int .i64 (AtV.o z))),(.vec 1 (iV (AtV.p z)) .none),(.val (.int .u32 (AtV.h z))),(.val (.int .i64 (AtV.m z))),(.val (.bool (AtV.hm z)))])],(tl)⟩ (.call ⟨(.builtin .append), #[(.tmp 35),(.tmp 40)], #[48,48]⟩) [(35,(x1)),(40,(.vec 8 [[(.val (.int .u32 (a))),(.val (.int .i64 (n))),(.val (.int .i64 (AtV.o y))),(.vec 1 (iV (AtV.p y)) .none),(.val (.int .u32 (AtV.h y))),(.val (.int .i64 (AtV.m y))),(.val (.bool (AtV.hm y))),(.val (.bool false))]] .full))] (.vec 8 (l1) (tk1)) ⟨[(.cells [(.map 1),(.map 2)]),(.map ⟨true, [(.int .u32),(.int .i64)]⟩ (lk) (es) (ck)),(.map ⟨true, [(.int .u32),(.int .i64)]⟩ (lk2) (es2) (ck2)),(.cells [(.ptr 0 0)]),(.cells [(x1)]),(.cells [(.map 1)]), .defd,(.loop .busy .none [(.ptr 0 0),(.ptr 3 0),(.val (.slice .none 0 0)),(.ptr 4 0),(.val (.tuple #[])),(.val (.tuple #[])),(.val (.tuple #[])),(.val (.tuple #[])),(.ptr 0 0),(.val (.bool true)),(.val (.bool false)),(.ptr 0 0),(.ptr 0 0),(.ptr 0 0),(.map 1),(.fn (.func 74) [] [(.ptr 5 0)]),(.val (.tuple #[])),(.val (.tuple #[])),(.val (.tuple #[])),(.val (.tuple #[])),(.val (.tuple #[])),(.val (.tuple #[])),(.val (.tuple #[])),(.val (.tuple #[])),(.val (.tuple #[])),(.val (.tuple #[])),(.val (.tuple #[])),(.val (.tuple #[])),(.val (.tuple #[])),(.val (.tuple #[])),(.val (.tuple #[])),(.val (.tuple #[])),(.val (.tuple #[])),(.val (.tuple #[])),(.val (.tuple #[])),(.val (.tuple #[])),(.val (.tuple #[])),(.val (.tuple #[])),(.val (.tuple #[])),(.val (.tuple #[])),(.val (.tuple #[])),(.val (.tuple #[])),(.val (.tuple #[]))] #[16,17] dn cL),(.cells [(.map 1)]),(.cells [(.val (.int .u32 (a))),(.val (.int .i64 (n)))]),(.cells [(.val (.int .u32 (a))),(.val (.int .i64 (n)))]),(.cells [(.val (.int .i64 (AtV.o y))),(.vec 1 (iV (AtV.p y)) .none),(.val (.int .u32 (AtV.h y))),(.val (.int .i64 (AtV.m y))),(.val (.bool (AtV.hm y)))]),(.cells [(.val (.int .i64 (AtV.o z))),(.vec 1 (iV (AtV.p z)) .none),(.val (.int .u32 (AtV.h z))),(.val (.int .i64 (AtV.m z))),(.val (.bool (AtV.hm z)))])],(tl2)⟩∧
 Q .normal [(.yld 7),(.ptr 5 0),(.vec 2 (S) .none),(.val (.int .i64 ((↑(List.length S):Int)))),(.val (.int .i64 (IntKind.wrap IntKind.i64 ((↑j:Int)+(1:Int)))))] ⟨[(.cells [(.map 1),(.map 2)]),(.map ⟨true, [(.int .u32),(.int .i64)]⟩ (lk) (es) (ck)),(.map ⟨true, [(.int .u32),(.int .i64)]⟩ (lk2) (es2) (ck2)),(.cells [(.ptr 0 0)]),(.cells [(.vec 8 (l1) (tk1))]),(.cells [(.map 1)]), .defd,(.loop .ready .none [(.ptr 0 0),(.ptr 3 0),(.val (.slice .none 0 0)),(.ptr 4 0),(.val (.tuple #[])),(.val (.tuple #[])),(.val (.tuple #[])),(.val (.tuple #[])),(.ptr 0 0),(.val (.bool true)),(.val (.bool false)),(.ptr 0 0),(.ptr 0 0),(.ptr 0 0),(.map 1),(.fn (.func 74) [] [(.ptr 5 0)]),(.val (.tuple #[])),(.val (.tuple #[])),(.val (.tuple #[])),(.val (.tuple #[])),(.val (.tuple #[])),(.val (.tuple #[])),(.val (.tuple #[])),(.val (.tuple #[])),(.val (.tuple #[])),(.val (.tuple #[])),(.val (.tuple #[])),(.val (.tuple #[])),(.val (.tuple #[])),(.val (.tuple #[])),(.val (.tuple #[])),(.val (.tuple #[])),(.val (.tuple #[])),(.val (.tuple #[])),(.val (.tuple #[])),(.val (.tuple #[])),(.val (.tuple #[])),(.val (.tuple #[])),(.val (.tuple #[])),(.val (.tuple #[])),(.val (.tuple #[])),(.val (.tuple #[])),(.val (.tuple #[]))] #[16,17] dn cL),(.cells [(.map 1)]),(.cells [(.val (.int .u32 (a))),(.val (.int .i64 (n)))]),(.cells [(.val (.int .u32 (a))),(.val (.int .i64 (n)))]),(.cells [(.val (.int .i64 (AtV.o y))),(.vec 1 (iV (AtV.p y)) .none),(.val (.int .u32 (AtV.h y))),(.val (.int .i64 (AtV.m y))),(.val (.bool (AtV.hm y)))]),(.cells [(.val (.int .i64 (AtV.o z))),(.vec 1 (iV (AtV.p z)) .none),(.val (.int .u32 (AtV.h z))),(.val (.int .i64 (AtV.m z))),(.val (.bool (AtV.hm z)))])],(tl2)⟩ [] 22)))
 else Q .normal [(.yld 7),(.ptr 5 0),(.vec 2 (S) .none),(.val (.int .i64 ((↑(List.length S):Int)))),(.val (.int .i64 (IntKind.wrap IntKind.i64 ((↑j:Int)+(1:Int)))))] ⟨[(.cells [(.map 1),(.map 2)]),(.map ⟨true, [(.int .u32),(.int .i64)]⟩ (lk) (es) (ck)),(.map ⟨true, [(.int .u32),(.int .i64)]⟩ (lk2) (es2) (ck2)),(.cells [(.ptr 0 0)]),(.cells [(x1)]),(.cells [(.map 1)]), .defd,(.loop .ready .none [(.ptr 0 0),(.ptr 3 0),(.val (.slice .none 0 0)),(.ptr 4 0),(.val (.tuple #[])),(.val (.tuple #[])),(.val (.tuple #[])),(.val (.tuple #[])),(.ptr 0 0),(.val (.bool true)),(.val (.bool false)),(.ptr 0 0),(.ptr 0 0),(.ptr 0 0),(.map 1),(.fn (.func 74) [] [(.ptr 5 0)]),(.val (.tuple #[])),(.val (.tuple #[])),(.val (.tuple #[])),(.val (.tuple #[])),(.val (.tuple #[])),(.val (.tuple #[])),(.val (.tuple #[])),(.val (.tuple #[])),(.val (.tuple #[])),(.val (.tuple #[])),(.val (.tuple #[])),(.val (.tuple #[])),(.val (.tuple #[])),(.val (.tuple #[])),(.val (.tuple #[])),(.val (.tuple #[])),(.val (.tuple #[])),(.val (.tuple #[])),(.val (.tuple #[])),(.val (.tuple #[])),(.val (.tuple #[])),(.val (.tuple #[])),(.val (.tuple #[])),(.val (.tuple #[])),(.val (.tuple #[])),(.val (.tuple #[])),(.val (.tuple #[]))] #[16,17] dn cL),(.cells [(.map 1)]),(.cells [(.val (.int .u32 (a))),(.val (.int .i64 (n)))]),(.cells [(.val (.int .u32 (a))),(.val (.int .i64 (n)))]),(.cells [(.val (.int .i64 (AtV.o y))),(.vec 1 (iV (AtV.p y)) .none),(.val (.int .u32 (AtV.h y))),(.val (.int .i64 (AtV.m y))),(.val (.bool (AtV.hm y)))]),(.cells [(.val (.int .i64 (AtV.o z))),(.vec 1 (iV (AtV.p z)) .none),(.val (.int .u32 (AtV.h z))),(.val (.int .i64 (AtV.m z))),(.val (.bool (AtV.hm z)))])],(tl)⟩ [] 22))))))
 else Q (.exit 0) [(.yld 7),(.ptr 5 0),(.vec 2 (S) .none),(.val (.int .i64 ((↑(List.length S):Int)))),(.val (.int .i64 ((↑j:Int))))] ⟨[(.cells [(.map 1),(.map 2)]),(.map ⟨true, [(.int .u32),(.int .i64)]⟩ (lk) (es) (ck)),(.map ⟨true, [(.int .u32),(.int .i64)]⟩ (lk2) (es2) (ck2)),(.cells [(.ptr 0 0)]),(.cells [(x1)]),(.cells [(.map 1)]), .defd,(.loop .ready .none [(.ptr 0 0),(.ptr 3 0),(.val (.slice .none 0 0)),(.ptr 4 0),(.val (.tuple #[])),(.val (.tuple #[])),(.val (.tuple #[])),(.val (.tuple #[])),(.ptr 0 0),(.val (.bool true)),(.val (.bool false)),(.ptr 0 0),(.ptr 0 0),(.ptr 0 0),(.map 1),(.fn (.func 74) [] [(.ptr 5 0)]),(.val (.tuple #[])),(.val (.tuple #[])),(.val (.tuple #[])),(.val (.tuple #[])),(.val (.tuple #[])),(.val (.tuple #[])),(.val (.tuple #[])),(.val (.tuple #[])),(.val (.tuple #[])),(.val (.tuple #[])),(.val (.tuple #[])),(.val (.tuple #[])),(.val (.tuple #[])),(.val (.tuple #[])),(.val (.tuple #[])),(.val (.tuple #[])),(.val (.tuple #[])),(.val (.tuple #[])),(.val (.tuple #[])),(.val (.tuple #[])),(.val (.tuple #[])),(.val (.tuple #[])),(.val (.tuple #[])),(.val (.tuple #[])),(.val (.tuple #[])),(.val (.tuple #[])),(.val (.tuple #[]))] #[16,17] dn cL),(.cells [(.map 1)])],(tl)⟩ [] 22):=by kernel_rfl
theorem yz (lk lk2:bG) (es es2:bv) (ck ck2:Nat) (S:Bs) (x1:TV) (l1:Bs) (tk1:Tok) (tl tl2:bF) (j:Nat) (a n:Int) (y:AtV) (Q:Exit→List TV→VT→List Nat→Nat→Prop):vx Try.prog ae aO (aH [(12, .elt [.val (.int .u32 a), .val (.int .i64 n)],none)]) 300 (jY 999997 (fun _ _ _ _ _ _=>False, .skip) 1000003 (mI Try.prog ae (aG [(iv,kF)]) (aH [(999998, .dead,none),(18, .agg y.cells,none)]) (aH [(999998, .dead,none),(24, .tup [.agg [.val (.int .i64 0), .val (.slice none 0 0), .val (.int .u32 0), .val (.int .i64 0), .val (.bool false)], .val (.bool false)],none),(41, .vec 8 l1 tk1,some fun T=>{T with tails:=tl2})]) 250 (aR Try.prog b9 3),aR Try.prog b9 3)) none 0 (bR Try.prog b9 0) (aL 22 gC (gj S j)) (kG lk lk2 es es2 ck ck2 x1 tl) [] (cz gC Q)=
 (bif decide ((↑j:Int)<(↑(List.length S):Int))
 then (bb Try.prog (fun _=> .none) (.indexAddr 42 (.tmp 8) (.tmp 10)) [(8,(.vec 2 (S) .none)),(10,(.val (.int .i64 ((↑j:Int)))))] (.elt [(.val (.int .u32 (a))),(.val (.int .i64 (n)))])∧
 ((aR Try.prog b9 (3:Nat)=aR Try.prog b9 (3:Nat))∧
 (fE Try.prog (fun _=> .none) ⟨[(.cells [(.map 1),(.map 2)]),(.map ⟨true, [(.int .u32),(.int .i64)]⟩ (lk) (es) (ck)),(.map ⟨true, [(.int .u32),(.int .i64)]⟩ (lk2) (es2) (ck2)),(.cells [(.ptr 0 0)]),(.cells [(x1)]),(.cells [(.map 1)]), .defd,(.loop .ready .none [(.ptr 0 0),(.ptr 3 0),(.val (.slice .none 0 0)),(.ptr 4 0),(.val (.tuple #[])),(.val (.tuple #[])),(.val (.tuple #[])),(.val (.tuple #[])),(.ptr 0 0),(.val (.bool true)),(.val (.bool false)),(.ptr 0 0),(.ptr 0 0),(.ptr 0 0),(.map 1),(.fn (.func 74) [] [(.ptr 5 0)]),(.val (.tuple #[])),(.val (.tuple #[])),(.val (.tuple #[])),(.val (.tuple #[])),(.val (.tuple #[])),(.val (.tuple #[])),(.val (.tuple #[])),(.val (.tuple #[])),(.val (.tuple #[])),(.val (.tuple #[])),(.val (.tuple #[])),(.val (.tuple #[])),(.val (.tuple #[])),(.val (.tuple #[])),(.val (.tuple #[])),(.val (.tuple #[])),(.val (.tuple #[])),(.val (.tuple #[])),(.val (.tuple #[])),(.val (.tuple #[])),(.val (.tuple #[])),(.val (.tuple #[])),(.val (.tuple #[])),(.val (.tuple #[])),(.val (.tuple #[])),(.val (.tuple #[])),(.val (.tuple #[]))] #[16,17] dn cL),(.cells [(.map 1)]),(.cells [(.val (.int .u32 (a))),(.val (.int .i64 (n)))])],(tl)⟩ false (.lookup 73 (.tmp 16) (.tmp 17) false) [(16,(.map 1)),(17,(.agg [(.val (.int .u32 (a))),(.val (.int .i64 (n)))]))] (.agg [(.val (.int .i64 (AtV.o y))),(.vec 1 (iV (AtV.p y)) .none),(.val (.int .u32 (AtV.h y))),(.val (.int .i64 (AtV.m y))),(.val (.bool (AtV.hm y)))])∧
 (iD Try.prog ⟨[(.cells [(.map 1),(.map 2)]),(.map ⟨true, [(.int .u32),(.int .i64)]⟩ (lk) (es) (ck)),(.map ⟨true, [(.int .u32),(.int .i64)]⟩ (lk2) (es2) (ck2)),(.cells [(.ptr 0 0)]),(.cells [(x1)]),(.cells [(.map 1)]), .defd,(.loop .busy .none [(.ptr 0 0),(.ptr 3 0),(.val (.slice .none 0 0)),(.ptr 4 0),(.val (.tuple #[])),(.val (.tuple #[])),(.val (.tuple #[])),(.val (.tuple #[])),(.ptr 0 0),(.val (.bool true)),(.val (.bool false)),(.ptr 0 0),(.ptr 0 0),(.ptr 0 0),(.map 1),(.fn (.func 74) [] [(.ptr 5 0)]),(.val (.tuple #[])),(.val (.tuple #[])),(.val (.tuple #[])),(.val (.tuple #[])),(.val (.tuple #[])),(.val (.tuple #[])),(.val (.tuple #[])),(.val (.tuple #[])),(.val (.tuple #[])),(.val (.tuple #[])),(.val (.tuple #[])),(.val (.tuple #[])),(.val (.tuple #[])),(.val (.tuple #[])),(.val (.tuple #[])),(.val (.tuple #[])),(.val (.tuple #[])),(.val (.tuple #[])),(.val (.tuple #[])),(.val (.tuple #[])),(.val (.tuple #[])),(.val (.tuple #[])),(.val (.tuple #[])),(.val (.tuple #[])),(.val (.tuple #[])),(.val (.tuple #[])),(.val (.tuple #[]))] #[16,17] dn cL),(.cells [(.map 1)]),(.cells [(.val (.int .u32 (a))),(.val (.int .i64 (n)))]),(.cells [(.val (.int .u32 (a))),(.val (.int .i64 (n)))]),(.cells [(.val (.int .i64 (AtV.o y))),(.vec 1 (iV (AtV.p y)) .none),(.val (.int .u32 (AtV.h y))),(.val (.int .i64 (AtV.m y))),(.val (.bool (AtV.hm y)))])],(tl)⟩ 73 (.map 2) (.agg [(.val (.int .u32 (a))),(.val (.int .i64 (n)))]) true (.tup [(.agg [(.val (.int .i64 0)),(.val (.slice .none 0 0)),(.val (.int .u32 0)),(.val (.int .i64 0)),(.val (.bool false))]),(.val (.bool false))])∧
 (ly [(.val (.int .i64 (AtV.o y))),(.vec 1 (iV (AtV.p y)) .none),(.val (.int .u32 (AtV.h y))),(.val (.int .i64 (AtV.m y))),(.val (.bool (AtV.hm y)))]∧
 (((@Eq (Option TV) (.some (.agg [(.val (.int .i64 (AtV.o y))),(.vec 1 (iV (AtV.p y)) .none),(.val (.int .u32 (AtV.h y))),(.val (.int .i64 (AtV.m y))),(.val (.bool (AtV.hm y)))])) (.some (.agg [(.val (.int .i64 (AtV.o y))),(.vec 1 (iV (AtV.p y)) .none),(.val (.int .u32 (AtV.h y))),(.val (.int .i64 (AtV.m y))),(.val (.bool (AtV.hm y)))])))∧
 ((@Eq (Option TV) (.some (.agg [(.val (.int .u32 (a))),(.val (.int .i64 (n)))])) (.some (.agg [(.val (.int .u32 (a))),(.val (.int .i64 (n)))])))∧
 ((@Eq (Option TV) (.some (x1)) (.some (x1)))∧
 True)))∧
 (bE Try.prog (fun _=> .none) 0 ⟨[(.cells [(.map 1),(.map 2)]),(.map ⟨true, [(.int .u32),(.int .i64)]⟩ (lk) (es) (ck)),(.map ⟨true, [(.int .u32),(.int .i64)]⟩ (lk2) (es2) (ck2)),(.cells [(.ptr 0 0)]),(.cells [(x1)]),(.cells [(.map 1)]), .defd,(.loop .busy .none [(.ptr 0 0),(.ptr 3 0),(.val (.slice .none 0 0)),(.ptr 4 0),(.val (.tuple #[])),(.val (.tuple #[])),(.val (.tuple #[])),(.val (.tuple #[])),(.ptr 0 0),(.val (.bool true)),(.val (.bool false)),(.ptr 0 0),(.ptr 0 0),(.ptr 0 0),(.map 1),(.fn (.func 74) [] [(.ptr 5 0)]),(.val (.tuple #[])),(.val (.tuple #[])),(.val (.tuple #[])),(.val (.tuple #[])),(.val (.tuple #[])),(.val (.tuple #[])),(.val (.tuple #[])),(.val (.tuple #[])),(.val (.tuple #[])),(.val (.tuple #[])),(.val (.tuple #[])),(.val (.tuple #[])),(.val (.tuple #[])),(.val (.tuple #[])),(.val (.tuple #[])),(.val (.tuple #[])),(.val (.tuple #[])),(.val (.tuple #[])),(.val (.tuple #[])),(.val (.tuple #[])),(.val (.tuple #[])),(.val (.tuple #[])),(.val (.tuple #[])),(.val (.tuple #[])),(.val (.tuple #[])),(.val (.tuple #[])),(.val (.tuple #[]))] #[16,17] dn cL),(.cells [(.map 1)]),(.cells [(.val (.int .u32 (a))),(.val (.int .i64 (n)))]),(.cells [(.val (.int .u32 (a))),(.val (.int .i64 (n)))]),(.cells [(.val (.int .i64 (AtV.o y))),(.vec 1 (iV (AtV.p y)) .none),(.val (.int .u32 (AtV.h y))),(.val (.int .i64 (AtV.m y))),(.val (.bool (AtV.hm y)))]),(.cells [(.val (.int .i64 0)),(.val (.slice .none 0 0)),(.val (.int .u32 0)),(.val (.int .i64 0)),(.val (.bool false))])],(tl)⟩ (.call ⟨(.builtin .append), #[(.tmp 35),(.tmp 40)], #[48,48]⟩) [(35,(x1)),(40,(.vec 8 [[(.val (.int .u32 (a))),(.val (.int .i64 (n))),(.val (.int .i64 (AtV.o y))),(.vec 1 (iV (AtV.p y)) .none),(.val (.int .u32 (AtV.h y))),(.val (.int .i64 (AtV.m y))),(.val (.bool (AtV.hm y))),(.val (.bool false))]] .full))] (.vec 8 (l1) (tk1)) ⟨[(.cells [(.map 1),(.map 2)]),(.map ⟨true, [(.int .u32),(.int .i64)]⟩ (lk) (es) (ck)),(.map ⟨true, [(.int .u32),(.int .i64)]⟩ (lk2) (es2) (ck2)),(.cells [(.ptr 0 0)]),(.cells [(x1)]),(.cells [(.map 1)]), .defd,(.loop .busy .none [(.ptr 0 0),(.ptr 3 0),(.val (.slice .none 0 0)),(.ptr 4 0),(.val (.tuple #[])),(.val (.tuple #[])),(.val (.tuple #[])),(.val (.tuple #[])),(.ptr 0 0),(.val (.bool true)),(.val (.bool false)),(.ptr 0 0),(.ptr 0 0),(.ptr 0 0),(.map 1),(.fn (.func 74) [] [(.ptr 5 0)]),(.val (.tuple #[])),(.val (.tuple #[])),(.val (.tuple #[])),(.val (.tuple #[])),(.val (.tuple #[])),(.val (.tuple #[])),(.val (.tuple #[])),(.val (.tuple #[])),(.val (.tuple #[])),(.val (.tuple #[])),(.val (.tuple #[])),(.val (.tuple #[])),(.val (.tuple #[])),(.val (.tuple #[])),(.val (.tuple #[])),(.val (.tuple #[])),(.val (.tuple #[])),(.val (.tuple #[])),(.val (.tuple #[])),(.val (.tuple #[])),(.val (.tuple #[])),(.val (.tuple #[])),(.val (.tuple #[])),(.val (.tuple #[])),(.val (.tuple #[])),(.val (.tuple #[])),(.val (.tuple #[]))] #[16,17] dn cL),(.cells [(.map 1)]),(.cells [(.val (.int .u32 (a))),(.val (.int .i64 (n)))]),(.cells [(.val (.int .u32 (a))),(.val (.int .i64 (n)))]),(.cells [(.val (.int .i64 (AtV.o y))),(.vec 1 (iV (AtV.p y)) .none),(.val (.int .u32 (AtV.h y))),(.val (.int .i64 (AtV.m y))),(.val (.bool (AtV.hm y)))]),(.cells [(.val (.int .i64 0)),(.val (.slice .none 0 0)),(.val (.int .u32 0)),(.val (.int .i64 0)),(.val (.bool false))])],(tl2)⟩∧
 Q .normal [(.yld 7),(.ptr 5 0),(.vec 2 (S) .none),(.val (.int .i64 ((↑(List.length S):Int)))),(.val (.int .i64 (IntKind.wrap IntKind.i64 ((↑j:Int)+(1:Int)))))] ⟨[(.cells [(.map 1),(.map 2)]),(.map ⟨true, [(.int .u32),(.int .i64)]⟩ (lk) (es) (ck)),(.map ⟨true, [(.int .u32),(.int .i64)]⟩ (lk2) (es2) (ck2)),(.cells [(.ptr 0 0)]),(.cells [(.vec 8 (l1) (tk1))]),(.cells [(.map 1)]), .defd,(.loop .ready .none [(.ptr 0 0),(.ptr 3 0),(.val (.slice .none 0 0)),(.ptr 4 0),(.val (.tuple #[])),(.val (.tuple #[])),(.val (.tuple #[])),(.val (.tuple #[])),(.ptr 0 0),(.val (.bool true)),(.val (.bool false)),(.ptr 0 0),(.ptr 0 0),(.ptr 0 0),(.map 1),(.fn (.func 74) [] [(.ptr 5 0)]),(.val (.tuple #[])),(.val (.tuple #[])),(.val (.tuple #[])),(.val (.tuple #[])),(.val (.tuple #[])),(.val (.tuple #[])),(.val (.tuple #[])),(.val (.tuple #[])),(.val (.tuple #[])),(.val (.tuple #[])),(.val (.tuple #[])),(.val (.tuple #[])),(.val (.tuple #[])),(.val (.tuple #[])),(.val (.tuple #[])),(.val (.tuple #[])),(.val (.tuple #[])),(.val (.tuple #[])),(.val (.tuple #[])),(.val (.tuple #[])),(.val (.tuple #[])),(.val (.tuple #[])),(.val (.tuple #[])),(.val (.tuple #[])),(.val (.tuple #[])),(.val (.tuple #[])),(.val (.tuple #[]))] #[16,17] dn cL),(.cells [(.map 1)]),(.cells [(.val (.int .u32 (a))),(.val (.int .i64 (n)))]),(.cells [(.val (.int .u32 (a))),(.val (.int .i64 (n)))]),(.cells [(.val (.int .i64 (AtV.o y))),(.vec 1 (iV (AtV.p y)) .none),(.val (.int .u32 (AtV.h y))),(.val (.int .i64 (AtV.m y))),(.val (.bool (AtV.hm y)))]),(.cells [(.val (.int .i64 0)),(.val (.slice .none 0 0)),(.val (.int .u32 0)),(.val (.int .i64 0)),(.val (.bool false))])],(tl2)⟩ [] 22)))))))
 else Q (.exit 0) [(.yld 7),(.ptr 5 0),(.vec 2 (S) .none),(.val (.int .i64 ((↑(List.length S):Int)))),(.val (.int .i64 ((↑j:Int))))] ⟨[(.cells [(.map 1),(.map 2)]),(.map ⟨true, [(.int .u32),(.int .i64)]⟩ (lk) (es) (ck)),(.map ⟨true, [(.int .u32),(.int .i64)]⟩ (lk2) (es2) (ck2)),(.cells [(.ptr 0 0)]),(.cells [(x1)]),(.cells [(.map 1)]), .defd,(.loop .ready .none [(.ptr 0 0),(.ptr 3 0),(.val (.slice .none 0 0)),(.ptr 4 0),(.val (.tuple #[])),(.val (.tuple #[])),(.val (.tuple #[])),(.val (.tuple #[])),(.ptr 0 0),(.val (.bool true)),(.val (.bool false)),(.ptr 0 0),(.ptr 0 0),(.ptr 0 0),(.map 1),(.fn (.func 74) [] [(.ptr 5 0)]),(.val (.tuple #[])),(.val (.tuple #[])),(.val (.tuple #[])),(.val (.tuple #[])),(.val (.tuple #[])),(.val (.tuple #[])),(.val (.tuple #[])),(.val (.tuple #[])),(.val (.tuple #[])),(.val (.tuple #[])),(.val (.tuple #[])),(.val (.tuple #[])),(.val (.tuple #[])),(.val (.tuple #[])),(.val (.tuple #[])),(.val (.tuple #[])),(.val (.tuple #[])),(.val (.tuple #[])),(.val (.tuple #[])),(.val (.tuple #[])),(.val (.tuple #[])),(.val (.tuple #[])),(.val (.tuple #[])),(.val (.tuple #[])),(.val (.tuple #[])),(.val (.tuple #[])),(.val (.tuple #[]))] #[16,17] dn cL),(.cells [(.map 1)])],(tl)⟩ [] 22):=by kernel_rfl
theorem Fk (lk lk2:bG) (es es2:bv) (ck ck2:Nat) (L L2:Bs) (Q:TV→VT→Prop):an Try.prog ae (aG [(nK,A5 L),(nL,A6 L2)]) (aH [(999998, .dead,none)]) 300 aE 0 yx [.ptr 0 0] (dc lk lk2 es es2 ck ck2) Q=
 (((@Eq (Nat) 0 0)∧
 DJ ⟨[(.cells [(.map 1),(.map 2)]),(.map ⟨true, [(.int .u32),(.int .i64)]⟩ (lk) (es) (ck)),(.map ⟨true, [(.int .u32),(.int .i64)]⟩ (lk2) (es2) (ck2))], []⟩ (L))∧
 (((@Eq (Nat) 0 0)∧
 DK ⟨[(.cells [(.map 1),(.map 2)]),(.map ⟨true, [(.int .u32),(.int .i64)]⟩ (lk) (es) (ck)),(.map ⟨true, [(.int .u32),(.int .i64)]⟩ (lk2) (es2) (ck2))], []⟩ (L2))∧
 Q (.val (.bool (aw BinOp.eql (ai (Value.int IntKind.i64 (IntKind.wrap IntKind.i64 ((↑(List.length L):Int)+(↑(List.length L2):Int)))) (Value.int IntKind.i64 (0:Int)))))) ⟨[(.cells [(.map 1),(.map 2)]),(.map ⟨true, [(.int .u32),(.int .i64)]⟩ (lk) (es) (ck)),(.map ⟨true, [(.int .u32),(.int .i64)]⟩ (lk2) (es2) (ck2))], []⟩)):=by kernel_rfl
end
section
open Go.RowKit
set_option maxRecDepth 100000

theorem iG {G:av} {T:VT} {t:TypeId} {m k:Operand} {ok:Bool} {l:List (Nat × TV)} {y:TV} (h:cO Try.prog T t (aS G l m) (aS G l k) ok=some y):fE Try.prog G T false (.lookup t m k ok) l y:=by
 refine ⟨?_⟩
 have h1:aN Try.prog (.lookup t m k ok) (aS G l)=none:=by simp [aN,cZ]
 simp only [kx,h1,cond_false,aJ,h]
theorem tw (l:List Px):CT (l.map au)=l:=by
 unfold CT
 rw [List.map_map]
 exact (List.map_congr_left fun p _=>rfl).trans (List.map_id _)
theorem ra {α:Type} {l:List α} {i:Nat} {a:α} (h:l[i]?=some a):l.set i a=l:=List.ext_getElem? fun j=>by
 rw [List.getElem?_set]
 split
 ·rename_i e;subst e
  obtain ⟨hlt,_⟩:=List.getElem?_eq_some_iff.1 h
  rw [if_pos hlt,h]
 ·rfl
theorem VCx.toLeX {α:Type} {P:Program} {G:av} {f:FuncId} {xs:List TV} {T:VT} {Pr:α→Prop} {fx:α→TV} {Q:VT→Prop} (h:VCx P G 0 f xs T fun x T' =>∃l,Pr l∧TVle x (fx l)∧Q T'):VCx P G 0 f xs T fun x T' =>∃l,Pr l∧x=fx l∧Q T' :=by
 intro g w us rw0 hG hx
 refine Calls.mono (h g w us rw0 hG hx) ?_
 rintro e w' ⟨v,x,g',T',he,⟨l,hl,hq,hQ⟩,e',r',hv,hfx⟩
 exact ⟨v,_,g',T',he,⟨l,hl,rfl,hQ⟩,e',r',hq _ _ _ hv,hfx⟩
theorem yA:∀ro ys T K,vg ro ys T K→VCx Try.prog ae ro tf ys T K:=by
 intro ro ys T K hw
 unfold vg at hw
 split at hw
 ·rename_i f b
  split at hw
  ·rename_i m hb
   split at hw
   ·rename_i sh lk es ck hm
    obtain ⟨⟨⟨rfl,hr1,hr2⟩,rfl,h⟩,hk⟩:=hw
    have hne:m≠b:=fun e=>by subst e;rw [hm] at hb;cases hb
    have i0:aZ [m,b] m=some 0:=by simp [aZ,List.idxOf?,List.findIdx?,List.findIdx?.go]
    have i1:aZ [m,b] b=some 1:=by simp [aZ,List.idxOf?,List.findIdx?,List.findIdx?.go,hne]
    have hg:T.give [m,b] []=⟨[.map kP lk es ck, .cells [.map 0]], []⟩:=by
     simp only [VT.give,List.map_cons,List.map_nil,hm,hb,Option.getD_some,h.ren]
     simp only [VO.ren,ar,TV.ren,i0]
    refine (VCx.lift (xs:= [.fn (.func ed) [] [.ptr 1 0]]) [m,b] [] az (by simp [hne]) List.nodup_nil (fun k hk=> ?_) (by simp) (fun i hi=> ?_) ?_ (by rw [hg];exact VCx.toLeX (Pr:=fun l:List Px=>l.Perm (kD es)) (fx:=fun l=> .vec 2 (l.map au) .none) (Q:=fun T' =>T' =⟨[.map kP lk es ck, .cells [.map 0]], []⟩) (Dg h)) (fun x T' hq=> ?_)).mono ?_
    ·simp only [List.mem_cons,List.not_mem_nil,or_false] at hk
     rcases hk with rfl | rfl
     ·exact ⟨_,hm,rfl⟩
     ·exact ⟨_,hb,rfl⟩
    ·simp only [List.mem_cons,List.not_mem_nil,or_false] at hi
     rcases hi with rfl | rfl
     ·exact Nat.le_of_ble_eq_true hr2
     ·exact Nat.le_of_ble_eq_true hr1
    ·simp only [ar,TV.ren,i1]
    ·obtain ⟨l,_,_,rfl⟩:=hq
     exact ⟨Nat.le_refl _,Nat.zero_le _⟩
    ·rintro x T' ⟨y,T2,⟨l,hl,rfl,rfl⟩,rfl,rfl⟩
     have o0:aP T.objs.length [m,b] 0=some m:=rfl
     have hbk:T.back [m,b] [] ⟨[.map kP lk es ck, .cells [.map 0]], []⟩=T:=by
      simp only [VT.back,List.map_cons,List.map_nil,h.ren]
      simp only [VO.ren,ar,TV.ren,o0,bh,List.append_nil,ra hm,ra hb]
     rw [hbk]
     simp only [TV.ren,dR,Tok.ren]
     exact hk _ ⟨l,hl,rfl⟩
   ·exact hw.elim
  ·exact hw.elim
 ·exact hw.elim
theorem yB:∀ro ys T K,vh ro ys T K→VCx Try.prog ae ro qV ys T K:=by
 intro ro ys T K hw
 unfold vh at hw
 split at hw
 ·obtain ⟨⟨l,rfl,hl⟩,hk⟩:=hw
  unfold nJ at hk
  rw [tw] at hk
  exact VCx.loosePure az (C8 l hl) (by simp [cW]) (by simp only [ar,TV.ren,dR,Tok.ren]) (fun f g=>by simp only [TV.ren,dR,Tok.ren]) hk
 ·exact hw.elim
theorem rc {W:List aj} {lk:bG} {es:bv} {ck:Nat} (h:TbOk W lk es ck) {l:List Px} (hl:l.Perm (kD es)):bS (dV l)=W.map (·.1):=by
 have hp:l.Perm (W.map (·.1)):=hl.trans h.esP
 refine o8 (s9 (tb l)) ?_ fun x=> ?_
 ·exact List.pairwise_map.2 h.srt
 ·rw [yh]
  have h1:(dV l).Perm l:=List.mergeSort_perm _ _
  rw [h1.mem_iff,hp.mem_iff]
end
section
open Go.RowKit
set_option maxRecDepth 100000

section
variable {W H:List aj} {lk lk2:bG} {es es2:bv} {ck ck2:Nat}
theorem wJ (W:List aj) (H:List aj) (r:aj):aC W (H++ [r])=aC W H++(bif ba W r.1 then [] else [r.1]):=by
 unfold aC
 rw [List.map_append,List.filter_append]
 congr 1
 simp only [List.map_cons,List.map_nil,List.filter_cons,List.filter_nil]
 cases ba W r.1<;>rfl
theorem mO (W H:List aj):(aC W H).length≤H.length:=by
 unfold aC
 have:=List.length_filter_le (fun p=> !ba W p) (H.map (·.1))
 simpa using this
theorem nk {j:Nat} (h:j≤3000000):IntKind.wrap IntKind.i64 ((j:Int)+1)=((j+1:Nat):Int):=by rw [ni (by omega) (by omega)];omega
def bO (H:List aj):Bs:=(H.map (·.1)).map au
theorem re (H:List aj):(bO H).length=H.length:=by simp [bO]
theorem nl {S:Bs} {j:Nat} {p:Px} (hp:S[j]?=some (au p)):bb Try.prog ae (.indexAddr 42 (.tmp 8) (.tmp 10)) [(8, .vec 2 S .none),(10, .val (.int .i64 (j:Int)))] (.elt (au p)):=by
 obtain ⟨inf,z,i1,i2,i3,i4,i5⟩:=pd
 have h:=eK (P:=Try.prog) (G:=ae) (inf:=inf) (t:=42) (x:= .tmp 8) (i:= .tmp 10) (l:= [(8, .vec 2 S .none),(10, .val (.int .i64 (j:Int)))]) (es:=S) (tok:= .none) (k:= .i64) (z:=(j:Int)) (cs:=au p) Try.underlying42 i1 (by rw [i2];rfl) rfl (by omega) (by simpa using hp)
 exact h
theorem pZ (S:List Px) (z:Int):ar (am 9) (am 1) (gj (S.map au) z)=gj (S.map au) z:=by
 simp only [gj,ar,TV.ren,dR,Tok.ren];rfl
theorem DN (objs:List VO) (l:List Px) (p:Px) (h:l.length≤2000000):bE Try.prog ae 0 ⟨objs,tP l⟩ (.call ⟨.builtin .append, #[.tmp 28, .tmp 30], #[42,42]⟩) [(28,xP l),(30, .vec 2 [au p] .full)] (.vec 2 ((l++ [p]).map au) (.tail 0 (l++ [p]).length)) ⟨objs,tP (l++ [p])⟩:=by
  obtain ⟨inf,z,i1,i2,i3,i4,i5⟩:=pd
  have h1:=ij (inf:=inf) (P:=Try.prog) (G:=ae) (ro:=0) (T:=⟨objs,tP l⟩) (T1:=⟨objs, [(l.length,2,true)]⟩) (t:=42) (tx:=42) (s:= .tmp 28) (x:= .tmp 30) (l:= [(28,xP l),(30, .vec 2 [au p] .full)]) (es:=l.map au) (es2:= [au p]) (k:=0) (n:=l.length) (bn:=true) Try.underlying42 i1 i4 (by rw [i5,i2]) (by rw [i2];omega) (by kernel_rfl)
    (by rw [i2];cases l<;>simp [aS,cS,eY,xP,tP]) (by rw [i2];rfl)
    (by have h1:=i3
        have h2:=Nat.mul_le_mul (show (l.map au).length+ [au p].length≤2000001 by simp only [List.length_map,List.length_cons,List.length_nil];omega) h1
        omega)
  rw [i2] at h1
  rw [yl]
  rw [show (l++ [p]).map au=l.map au++ [au p] by rw [List.map_append];rfl,show (l++ [p]).length=l.length+ [au p].length by simp]
  exact h1
theorem om (h:TbOk W lk es ck) (h2:TbOk H lk2 es2 ck2) (l:List VO) (tl:bF):VT.keep ⟨.cells [.map 1, .map 2]:: .map kP lk es ck:: .map kP lk2 es2 ck2::l,tl⟩ 3 0=dc lk lk2 es es2 ck ck2:=by
 have e1:=h.ren (am 3) (am 0)
 have e2:=h2.ren (am 3) (am 0)
 simp only [VT.keep,List.take_succ_cons,List.take_zero,List.map_cons,List.map_nil,e1,e2,dc]
 rfl
theorem tz (h:TbOk W lk es ck) (h2:TbOk H lk2 es2 ck2) (l:List Px) (o:List VO):VT.keep ⟨(lW lk lk2 es es2 ck ck2 (xP l) (tP l)).objs++o,tP l⟩ 9 1=lW lk lk2 es es2 ck ck2 (xP l) (tP l):=by
 have e:=h.ren (am 9) (am 1)
 have e1:=h2.ren (am 9) (am 1)
 have e2:(tP l).take 1=tP l:=List.take_of_length_le (kE _)
 simp only [VT.keep,lW,tu,List.cons_append,List.nil_append,List.take_succ_cons,List.take_zero,List.map_cons,List.map_nil,e,e1,e2]
 simp only [VO.ren,ar,pc]
 rfl
def cB (W H:List aj) (j:Nat):List Px:=aC W (H.take j)
theorem B2 (h:TbOk W lk es ck) (h2:TbOk H lk2 es2 ck2):dl Try.prog ae (DF lk lk2 es es2 ck ck2 (bO H) (xP (aC W H)) (tP (aC W H)) (aq Try.prog b9 0)):=bP fun p hp=>by
  obtain rfl:=List.mem_singleton.1 hp
  refine cJ fun K hK=> ?_
  have hlen:=re H
  have hfew:=h2.few
  refine eQ (f:=b9) (id:=0) (by kernel_rfl) 22 gC (fun j:Nat=>H.length-j) (fun j=>gj (bO H) j) (fun j=>lW lk lk2 es es2 ck ck2 (xP (cB W H j)) (tP (cB W H j))) (fun j=>j≤H.length) 9 1 (fun j _=>⟨Nat.le_refl _,kE _⟩)
    (fun e vs T=>e= .normal∧vs=gj (bO H) (bO H).length∧T=lW lk lk2 es es2 ck ck2 (xP (aC W H)) (tP (aC W H))) (fun j hj=> ?_) 0 (Nat.zero_le _) K ?_
  rotate_left
  · rintro e vs T ⟨rfl,rfl,rfl⟩
    exact hK
  have hL:∀F1 F2:dT,dl Try.prog ae (jY 999997 (fun _ _ _ _ _ _=>False, .skip) 1000003 (mI Try.prog ae aO F1 F2 250 (aR Try.prog b9 3),aR Try.prog b9 3)):=
    fun F1 F2=>pV (fun _ _ _ _ _ _ h=>h.elim) (fun rd ro σ T D K h=>uQ ac aa ag (F1:=F1) (F2:=F2) (n:=250) (c:=aR Try.prog b9 3) rd ro σ T D K h)
  by_cases hlt:j<H.length
  rotate_left
  · obtain rfl:j=H.length:=by omega
    have hg:cB W H H.length=aC W H:=by unfold cB;rw [List.take_length]
    refine bt ac aa ag (hL _ _) (yy lk lk2 es es2 ck ck2 (bO H) (xP (cB W H H.length)) (tP (cB W H H.length)) H.length 0 0 cK cK _) (be (decide_eq_false (by omega)) ?_)
    rw [hg]
    refine ⟨rfl,rfl,rfl, ?_,rfl⟩
    simp only [gj,hlen]
  · have hr:=List.getElem?_eq_getElem hlt
    generalize H[j]=r at hr
    obtain ⟨p,a⟩:=r
    have hm:(p,a)∈H:=List.mem_of_getElem? hr
    have hf2:ay H p=some a:=di h2.srt hm
    have hel:(bO H)[j]?=some (au p):=by simp [bO,hr]
    have htk:cB W H (j+1)=cB W H j++(bif ba W p then [] else [p]):=by
      unfold cB
      rw [show H.take (j+1)=H.take j++ [(p,a)] by rw [List.take_add_one,hr];rfl,wJ]
    have hlk2:∀(o:List VO) (tl:bF),cO Try.prog ⟨(lW lk lk2 es es2 ck ck2 (xP (cB W H j)) (tP (cB W H j))).objs++o,tl⟩ 73 (.map 2) (dy p.1 p.2) false=some (.agg a.cells):=fun o tl=>by
      rw [dA (id:=2) rfl,h2.look,hf2];rfl
    cases hfw:ay W p with
    | some b=>
      have hh:ba W p=true:=by rw [ba,hfw];rfl
      rw [hh,cond_true,List.append_nil] at htk
      refine bt ac aa ag (hL _ _) (yy lk lk2 es es2 ck ck2 (bO H) (xP (cB W H j)) (tP (cB W H j)) j p.1 p.2 a b _) (bx (decide_eq_true (by omega)) ⟨nl hel,rfl,iG (hlk2 [_] _),⟨(dA (id:=1) rfl true).trans (by rw [io h hfw];rfl)⟩, ?_⟩)
      refine ⟨rfl,rfl,j+1,hlt,by show H.length-(j+1)<H.length-j;omega, .inr ⟨?_, ?_⟩⟩
      · show _=lW lk lk2 es es2 ck ck2 (xP (cB W H (j+1))) (tP (cB W H (j+1)))
        rw [htk]
        exact tz h h2 (cB W H j) [_,_,_]
      · rw [nk (by omega)]
        exact pZ _ _
    | none=>
      have hh:ba W p=false:=by rw [ba,hfw];rfl
      rw [hh,cond_false] at htk
      have hgl:(cB W H j).length≤2000000:=by
        have:=mO W (H.take j)
        have:=List.length_take_le j H
        unfold cB;omega
      refine bt ac aa ag (hL _ _) (DL lk lk2 es es2 ck ck2 (bO H) (xP (cB W H j)) ((cB W H (j+1)).map au) (.tail 0 (cB W H (j+1)).length) (tP (cB W H j)) (tP (cB W H (j+1))) j p.1 p.2 a _) (bx (decide_eq_true (by omega)) ⟨nl hel,rfl,iG (hlk2 [_] _),⟨(dA (id:=1) rfl true).trans (by rw [ip h hfw])⟩, ?_, ?_⟩)
      · rw [htk]
        exact DN _ (cB W H j) p hgl
      · refine ⟨rfl,rfl,j+1,hlt,by show H.length-(j+1)<H.length-j;omega, .inr ⟨?_, ?_⟩⟩
        · show _=lW lk lk2 es es2 ck ck2 (xP (cB W H (j+1))) (tP (cB W H (j+1)))
          have hx:TV.vec 2 ((cB W H (j+1)).map au) (.tail 0 (cB W H (j+1)).length)=xP (cB W H (j+1)):=by rw [htk,yk]
          rw [hx]
          exact tz h h2 (cB W H (j+1)) [_,_,_]
        · rw [nk (by omega)]
          exact pZ _ _
theorem DO (h:TbOk W lk es ck) (h2:TbOk H lk2 es2 ck2):VCx Try.prog ae 0 b9 [.yld 7, .ptr 5 0] ⟨tu lk lk2 es es2 ck ck2 j3, []⟩ fun x T' =>x= .tup []∧T' =⟨tu lk lk2 es es2 ck ck2 (xP (aC W H)),tP (aC W H)⟩:=by
 have hS:aT Try.prog ae (aG [(tf,vg),(qV,vh)]):=aV fun p hp=>by
  rcases List.mem_cons.1 hp with rfl | hp;exact yA
  obtain rfl:=List.mem_singleton.1 hp;exact yB
 have hfew:=h2.few
 refine VCx.keepQ 8 1 (Nat.le_refl _) (Nat.zero_le _) (ak ac aa hS (B2 h h2) (Fi lk lk2 es es2 ck ck2 (bO H) (xP (aC W H)) (tP (aC W H)) _) ⟨⟨⟨rfl,rfl,rfl⟩,rfl,h2.mk_ok⟩,fun L hL=> ?_⟩)
 obtain ⟨l,hl,rfl⟩:=hL
 have hk:nJ (l.map au)=bO H:=by unfold nJ bO;rw [tw,rc h2 hl]
 have hln:l.length≤1000:=by rw [hl.length_eq,h2.esP.length_eq];simpa using hfew
 refine ⟨⟨l,rfl,hln⟩,rfl,⟨rfl,rfl,rfl,trivial,rfl,rfl, ?_⟩,rfl, ?_⟩
 ·rw [hk]
 ·have e:=h.ren (am 8) (am 1)
  have e1:=h2.ren (am 8) (am 1)
  have e2:(tP (aC W H)).take 1=tP (aC W H):=List.take_of_length_le (kE _)
  unfold kP at e e1
  simp only [VT.keep,tu,List.cons_append,List.nil_append,List.take_succ_cons,List.take_zero,List.map_cons,List.map_nil,e,e1,e2,kP]
  simp only [VO.ren,ar,pc]
  rfl
theorem B3 (x:TV) (tl:bF):∀ro ys T K,AE x tl ro ys T K→VCx Try.prog ae ro b9 ys T K:=by
 intro ro ys T K hw
 unfold AE at hw
 split at hw
 ·obtain ⟨⟨rfl,W,H,lk,lk2,es,es2,ck,ck2,rfl,⟨h,h2⟩,rfl,rfl⟩,hk⟩:=hw
  refine (DO h h2).mono ?_
  rintro x T' ⟨rfl,rfl⟩
  exact hk
 ·exact hw.elim
theorem Fl (l:List Px) (f g:Nat→Option Nat):TVle ((xP l).ren f g) (.vec 2 (l.map au) .none):=by
 cases l with
 | nil=>exact TVle.nil 2
 | cons p l=>
  simp only [xP,TV.ren,dR]
  exact TVle.vec 2 _ _
theorem yC {T:VT} (h:RibT W H T):VCx Try.prog ae 0 nK [.ptr 0 0] T fun x T' =>x= .vec 2 ((aC W H).map au) .none∧T' =T:=by
 obtain ⟨lk,lk2,es,es2,ck,ck2,rfl,h1,h2⟩:=h
 refine VCx.toLe (Q:=fun T' =>T' =dc lk lk2 es es2 ck ck2) (VCx.keepQ 3 0 (Nat.le_refl _) (Nat.le_refl _) (ak ac aa (aV fun p hp=>by obtain rfl:=List.mem_singleton.1 hp;exact B3 _ _) ah (Fg lk lk2 es es2 ck ck2 (xP (aC W H)) (tP (aC W H)) _) ⟨⟨rfl,W,H,lk,lk2,es,es2,ck,ck2,rfl,⟨h1,h2⟩,rfl,rfl⟩,Fl _ _ _, ?_⟩))
 exact om h1 h2 _ _
end
end
section
open Go.RowKit
set_option maxRecDepth 100000

section
variable {W H:List aj} {lk lk2:bG} {es es2:bv} {ck ck2:Nat}
theorem wK (W H:List aj) (r:aj):aI (W++ [r]) H=aI W H++(bif decide (ay H r.1=some r.2) then [] else [r]):=by
 unfold aI
 rw [List.filter_append]
 congr 1
 simp only [List.filter_cons,List.filter_nil]
 cases decide (ay H r.1=some r.2)<;>rfl
theorem mP (W H:List aj):(aI W H).length≤W.length:=List.length_filter_le _ _
theorem B4 (r:aj) (f g:Nat→Option Nat):ar f g (cg r)=cg r:=by
 simp only [cg,fm,AtV.cells,List.cons_append,List.nil_append,ar,TV.ren,cw,Tok.ren]
theorem jr (f g:Nat→Option Nat):∀l:List aj,de f g (l.map cg)=l.map cg
 | []=>rfl
 | a::l=>by simp only [List.map_cons,de,B4,jr f g l]
theorem yD (l:List aj) (f:Nat→Option Nat):(xC l).ren f (am 1)=xC l:=by
 cases l with
 | nil=>rfl
 | cons p l=>simp only [xC,TV.ren,jr,Tok.ren];rfl
theorem tA (l:List aj):(tC l).length≤1:=by cases l<;>simp [tC]
theorem DP (l:List aj) (p:aj):xC (l++ [p])= .vec 8 ((l++ [p]).map cg) (.tail 0 (l++ [p]).length):=by cases l<;>rfl
theorem DQ (l:List aj) (p:aj):tC (l++ [p])= [((l++ [p]).length,8,true)]:=by cases l<;>rfl
theorem yE:∃(inf:TypeInfo) (z:Value),Try.prog.info? 34=some inf∧inf.size=8∧inf.bytes+1≤200∧inf.zero=some z∧z.cells.size=8:=
 ⟨(Try.prog.info? 34).getD default,((Try.prog.info? 34).getD default).zero.getD default,by kernel_rfl,by kernel_rfl,Nat.le_of_ble_eq_true (by kernel_rfl),by kernel_rfl,by kernel_rfl⟩
theorem DR (objs:List VO) (l:List aj) (p:aj) (h:l.length≤2000000):bE Try.prog ae 0 ⟨objs,tC l⟩ (.call ⟨.builtin .append, #[.tmp 35, .tmp 40], #[48,48]⟩) [(35,xC l),(40, .vec 8 [cg p] .full)] (.vec 8 ((l++ [p]).map cg) (.tail 0 (l++ [p]).length)) ⟨objs,tC (l++ [p])⟩:=by
  obtain ⟨inf,z,i1,i2,i3,i4,i5⟩:=yE
  have h1:=ij (inf:=inf) (P:=Try.prog) (G:=ae) (ro:=0) (T:=⟨objs,tC l⟩) (T1:=⟨objs, [(l.length,8,true)]⟩) (t:=48) (tx:=48) (s:= .tmp 35) (x:= .tmp 40) (l:= [(35,xC l),(40, .vec 8 [cg p] .full)]) (es:=l.map cg) (es2:= [cg p]) (k:=0) (n:=l.length) (bn:=true) Try.underlying48 i1 i4 (by rw [i5,i2]) (by rw [i2];omega) (by kernel_rfl)
    (by rw [i2];cases l<;>simp [aS,cS,eY,xC,tC]) (by rw [i2];rfl)
    (by have h1:=i3
        have h2:=Nat.mul_le_mul (show (l.map cg).length+ [cg p].length≤2000001 by simp only [List.length_map,List.length_cons,List.length_nil];omega) h1
        omega)
  rw [i2] at h1
  rw [DQ]
  rw [show (l++ [p]).map cg=l.map cg++ [cg p] by rw [List.map_append];rfl,show (l++ [p]).length=l.length+ [cg p].length by simp]
  exact h1
theorem AG (h:TbOk W lk es ck) (h2:TbOk H lk2 es2 ck2) (l:List aj) (o:List VO):VT.keep ⟨(kG lk lk2 es es2 ck ck2 (xC l) (tC l)).objs++o,tC l⟩ 9 1=kG lk lk2 es es2 ck ck2 (xC l) (tC l):=by
 have e:=h.ren (am 9) (am 1)
 have e1:=h2.ren (am 9) (am 1)
 have e2:(tC l).take 1=tC l:=List.take_of_length_le (tA _)
 simp only [VT.keep,kG,tv,List.cons_append,List.nil_append,List.take_succ_cons,List.take_zero,List.map_cons,List.map_nil,e,e1,e2]
 simp only [VO.ren,ar,yD]
 rfl
def bW (W H:List aj) (j:Nat):List aj:=aI (W.take j) H
theorem DS (ok:Bool):aT Try.prog ae (aG [(nH,uY ok),(iv,kF)]):=aV fun p hp=>by
 rcases List.mem_cons.1 hp with rfl | hp;exact yf _
 obtain rfl:=List.mem_singleton.1 hp;exact pj
theorem B5 (h:TbOk W lk es ck) (h2:TbOk H lk2 es2 ck2):dl Try.prog ae (DG lk lk2 es es2 ck ck2 (bO W) (xC (aI W H)) (tC (aI W H)) (aq Try.prog b9 0)):=bP fun p hp=>by
  obtain rfl:=List.mem_singleton.1 hp
  refine cJ fun K hK=> ?_
  have hlen:=re W
  have hfew:=h.few
  refine eQ (f:=b9) (id:=0) (by kernel_rfl) 22 gC (fun j:Nat=>W.length-j) (fun j=>gj (bO W) j) (fun j=>kG lk lk2 es es2 ck ck2 (xC (bW W H j)) (tC (bW W H j))) (fun j=>j≤W.length) 9 1 (fun j _=>⟨Nat.le_refl _,tA _⟩)
    (fun e vs T=>e= .normal∧vs=gj (bO W) (bO W).length∧T=kG lk lk2 es es2 ck ck2 (xC (aI W H)) (tC (aI W H))) (fun j hj=> ?_) 0 (Nat.zero_le _) K ?_
  rotate_left
  · rintro e vs T ⟨rfl,rfl,rfl⟩
    exact hK
  have hL:∀(C:FuncId→Option aQ) (_:aT Try.prog ae C) (F1 F2:dT),dl Try.prog ae (jY 999997 (fun _ _ _ _ _ _=>False, .skip) 1000003 (mI Try.prog ae C F1 F2 250 (aR Try.prog b9 3),aR Try.prog b9 3)):=
    fun C hC F1 F2=>pV (fun _ _ _ _ _ _ h=>h.elim) (fun rd ro σ T D K h=>uQ ac aa hC (F1:=F1) (F2:=F2) (n:=250) (c:=aR Try.prog b9 3) rd ro σ T D K h)
  by_cases hlt:j<W.length
  rotate_left
  · obtain rfl:j=W.length:=by omega
    have hg:bW W H W.length=aI W H:=by unfold bW;rw [List.take_length]
    refine bt ac aa ag (hL _ wI _ _) (yz lk lk2 es es2 ck ck2 (bO W) (xC (bW W H W.length)) [] .none (tC (bW W H W.length)) [] W.length 0 0 cK _) (be (decide_eq_false (by omega)) ?_)
    rw [hg]
    refine ⟨rfl,rfl,rfl, ?_,rfl⟩
    simp only [gj,hlen]
  · have hr:=List.getElem?_eq_getElem hlt
    generalize W[j]=r at hr
    obtain ⟨p,a⟩:=r
    have hm:(p,a)∈W:=List.mem_of_getElem? hr
    have hf1:ay W p=some a:=di h.srt hm
    have hap:=h.okp _ hm
    have hel:(bO W)[j]?=some (au p):=by simp [bO,hr]
    have htk:bW W H (j+1)=bW W H j++(bif decide (ay H p=some a) then [] else [(p,a)]):=by
      unfold bW
      rw [show W.take (j+1)=W.take j++ [(p,a)] by rw [List.take_add_one,hr];rfl,wK]
    have hlk1:∀(o:List VO) (tl:bF),cO Try.prog ⟨(kG lk lk2 es es2 ck ck2 (xC (bW W H j)) (tC (bW W H j))).objs++o,tl⟩ 73 (.map 1) (dy p.1 p.2) false=some (.agg a.cells):=fun o tl=>by
      rw [dA (id:=1) rfl,h.look,hf1];rfl
    have hgl:(bW W H j).length≤2000000:=by
      have:=mP (W.take j) H
      have:=List.length_take_le j W
      unfold bW;omega
    have hend:∀o,rG 22 0 (fun j:Nat=>W.length-j) (fun j=>gj (bO W) j) (fun j=>kG lk lk2 es es2 ck ck2 (xC (bW W H j)) (tC (bW W H j))) (fun j=>j≤W.length) 9 1 j (fun e vs T=>e= .normal∧vs=gj (bO W) (bO W).length∧T=kG lk lk2 es es2 ck ck2 (xC (aI W H)) (tC (aI W H))) .normal (gj (bO W) (IntKind.wrap .i64 ((j:Int)+1))) ⟨(kG lk lk2 es es2 ck ck2 (xC (bW W H (j+1))) (tC (bW W H (j+1)))).objs++o,tC (bW W H (j+1))⟩ [] 22:=fun o=>by
      refine ⟨rfl,rfl,j+1,hlt,by show W.length-(j+1)<W.length-j;omega, .inr ⟨AG h h2 _ o, ?_⟩⟩
      rw [nk (by omega)]
      exact pZ _ _
    have happ:decide (ay H p=some a)=false→(∀objs:List VO,bE Try.prog ae 0 ⟨objs,tC (bW W H j)⟩ (.call ⟨.builtin .append, #[.tmp 35, .tmp 40], #[48,48]⟩) [(35,xC (bW W H j)),(40, .vec 8 [cg (p,a)] .full)] (.vec 8 ((bW W H (j+1)).map cg) (.tail 0 (bW W H (j+1)).length)) ⟨objs,tC (bW W H (j+1))⟩)∧TV.vec 8 ((bW W H (j+1)).map cg) (.tail 0 (bW W H (j+1)).length)=xC (bW W H (j+1)):=fun hd=>by
      rw [hd,cond_false] at htk
      rw [htk]
      exact ⟨fun objs=>DR objs _ (p,a) hgl,(DP _ _).symm⟩
    cases hfh:ay H p with
    | some b=>
      have hbp:=h2.okp _ (br hfh)
      have hdd:decide (ay H p=some a)=decide (a=b):=by
        rw [hfh]
        exact decide_eq_decide.2 ⟨fun e=>(Option.some.inj e).symm,fun e=>by rw [e]⟩
      refine bt ac aa ag (hL _ (DS _) _ _) (DM lk lk2 es es2 ck ck2 (bO W) (xC (bW W H j)) ((bW W H (j+1)).map cg) (.tail 0 (bW W H (j+1)).length) (tC (bW W H j)) (tC (bW W H (j+1))) j p.1 p.2 a b (decide (a=b)) _) (bx (decide_eq_true (by omega)) ⟨nl hel,rfl,iG (hlk1 [_] _),⟨(dA (id:=2) rfl true).trans (by rw [io h2 hfh];rfl)⟩,⟨a,b,⟨rfl,rfl⟩,⟨Nat.le_trans hap (by decide),Nat.le_trans hbp (by decide)⟩,rfl⟩, ?_⟩)
      rw [←hdd]
      refine aA (fun hd=> ?_) (fun hd=> ?_)
      · have hd:decide (ay H p=some a)=false:=by simpa using hd
        obtain ⟨k1,k2⟩:=happ hd
        refine ⟨⟨a,rfl,hap⟩,⟨rfl,rfl,rfl,trivial⟩,k1 _, ?_⟩
        rw [k2]
        exact hend [_,_,_,_]
      · have hd:decide (ay H p=some a)=true:=by simpa using hd
        have htk2:=htk
        rw [hd,cond_true,List.append_nil] at htk2
        have:=hend [.cells (au p), .cells (au p), .cells a.cells, .cells b.cells]
        rw [htk2] at this
        exact this
    | none=>
      have hd:decide (ay H p=some a)=false:=decide_eq_false (by rw [hfh];exact fun h=>by cases h)
      obtain ⟨k1,k2⟩:=happ hd
      refine bt ac aa ag (hL _ wI _ _) (yz lk lk2 es es2 ck ck2 (bO W) (xC (bW W H j)) ((bW W H (j+1)).map cg) (.tail 0 (bW W H (j+1)).length) (tC (bW W H j)) (tC (bW W H (j+1))) j p.1 p.2 a _) (bx (decide_eq_true (by omega)) ⟨nl hel,rfl,iG (hlk1 [_] _),⟨(dA (id:=2) rfl true).trans (by rw [ip h2 hfh])⟩,⟨a,rfl,hap⟩,⟨rfl,rfl,rfl,trivial⟩,k1 _, ?_⟩)
      rw [k2]
      exact hend [_,_,_,_]
theorem DT (h:TbOk W lk es ck) (h2:TbOk H lk2 es2 ck2):VCx Try.prog ae 0 b9 [.yld 7, .ptr 5 0] ⟨tv lk lk2 es es2 ck ck2 j3, []⟩ fun x T' =>x= .tup []∧T' =⟨tv lk lk2 es es2 ck ck2 (xC (aI W H)),tC (aI W H)⟩:=by
 have hS:aT Try.prog ae (aG [(tf,vg),(qV,vh)]):=aV fun p hp=>by
  rcases List.mem_cons.1 hp with rfl | hp;exact yA
  obtain rfl:=List.mem_singleton.1 hp;exact yB
 have hfew:=h.few
 refine VCx.keepQ 8 1 (Nat.le_refl _) (Nat.zero_le _) (ak ac aa hS (B5 h h2) (Fj lk lk2 es es2 ck ck2 (bO W) (xC (aI W H)) (tC (aI W H)) _) ⟨⟨⟨rfl,rfl,rfl⟩,rfl,h.mk_ok⟩,fun L hL=> ?_⟩)
 obtain ⟨l,hl,rfl⟩:=hL
 have hk:nJ (l.map au)=bO W:=by unfold nJ bO;rw [tw,rc h hl]
 have hln:l.length≤1000:=by rw [hl.length_eq,h.esP.length_eq];simpa using hfew
 refine ⟨⟨l,rfl,hln⟩,rfl,⟨rfl,rfl,rfl,trivial,rfl,rfl, ?_⟩,rfl, ?_⟩
 ·rw [hk]
 ·have e:=h.ren (am 8) (am 1)
  have e1:=h2.ren (am 8) (am 1)
  have e2:(tC (aI W H)).take 1=tC (aI W H):=List.take_of_length_le (tA _)
  unfold kP at e e1
  simp only [VT.keep,tv,List.cons_append,List.nil_append,List.take_succ_cons,List.take_zero,List.map_cons,List.map_nil,e,e1,e2,kP]
  simp only [VO.ren,ar,yD]
  rfl
theorem B6 (x:TV) (tl:bF):∀ro ys T K,AF x tl ro ys T K→VCx Try.prog ae ro b9 ys T K:=by
 intro ro ys T K hw
 unfold AF at hw
 split at hw
 ·obtain ⟨⟨rfl,W,H,lk,lk2,es,es2,ck,ck2,rfl,⟨h,h2⟩,rfl,rfl⟩,hk⟩:=hw
  refine (DT h h2).mono ?_
  rintro x T' ⟨rfl,rfl⟩
  exact hk
 ·exact hw.elim
theorem Fm (l:List aj) (f g:Nat→Option Nat):TVle ((xC l).ren f g) (.vec 8 (l.map cg) .none):=by
 cases l with
 | nil=>exact TVle.nil 8
 | cons p l=>
  simp only [xC,TV.ren,jr]
  exact TVle.vec 8 _ _
theorem yF {T:VT} (h:RibT W H T):VCx Try.prog ae 0 nL [.ptr 0 0] T fun x T' =>x= .vec 8 ((aI W H).map cg) .none∧T' =T:=by
 obtain ⟨lk,lk2,es,es2,ck,ck2,rfl,h1,h2⟩:=h
 refine VCx.toLe (Q:=fun T' =>T' =dc lk lk2 es es2 ck ck2) (VCx.keepQ 3 0 (Nat.le_refl _) (Nat.le_refl _) (ak ac aa (aV fun p hp=>by obtain rfl:=List.mem_singleton.1 hp;exact B6 _ _) ah (Fh lk lk2 es es2 ck ck2 (xC (aI W H)) (tC (aI W H)) _) ⟨⟨rfl,W,H,lk,lk2,es,es2,ck,ck2,rfl,⟨h1,h2⟩,rfl,rfl⟩,Fm _ _ _, ?_⟩))
 exact om h1 h2 _ _
theorem DU (L:Bs):∀ro ys T K,A5 L ro ys T K→VCx Try.prog ae ro nK ys T K:=by
 intro ro ys T K hw
 unfold A5 at hw
 split at hw
 ·obtain ⟨⟨rfl,W,H,h,rfl⟩,hk⟩:=hw
  refine (yC h).mono ?_
  rintro x T' ⟨rfl,rfl⟩
  exact hk
 ·exact hw.elim
theorem DV (L:Bs):∀ro ys T K,A6 L ro ys T K→VCx Try.prog ae ro nL ys T K:=by
 intro ro ys T K hw
 unfold A6 at hw
 split at hw
 ·obtain ⟨⟨rfl,W,H,h,rfl⟩,hk⟩:=hw
  refine (yF h).mono ?_
  rintro x T' ⟨rfl,rfl⟩
  exact hk
 ·exact hw.elim
def rH (W H:List aj):Bool:=decide ((aC W H).length+(aI W H).length=0)
theorem DW {T:VT} (h:RibT W H T):VCx Try.prog ae 0 yx [.ptr 0 0] T fun x T' =>x= .val (.bool (rH W H))∧T' =T:=by
 have h' :=h
 obtain ⟨lk,lk2,es,es2,ck,ck2,rfl,h1,h2⟩:=h
 have hS:aT Try.prog ae (aG [(nK,A5 ((aC W H).map au)),(nL,A6 ((aI W H).map cg))]):=aV fun p hp=>by
  rcases List.mem_cons.1 hp with rfl | hp;exact DU _
  obtain rfl:=List.mem_singleton.1 hp;exact DV _
 have g1:=mO W H
 have g2:=mP W H
 have f1:=h1.few
 have f2:=h2.few
 refine VCx.keepQ 3 0 (Nat.le_refl _) (Nat.le_refl _) (ak ac aa hS ah (Fk lk lk2 es es2 ck ck2 _ _ _) ⟨⟨rfl,W,H,h',rfl⟩,⟨rfl,W,H,h',rfl⟩, ?_,om h1 h2 [] []⟩)
 rw [List.length_map,List.length_map,ni (by omega) (by omega)]
 show TV.val (.bool _)=_
 congr 2
 unfold rH
 have e0:aw BinOp.eql (ai (Value.int IntKind.i64 ((aC W H).length+(aI W H).length:Int)) (Value.int IntKind.i64 0))=decide (((aC W H).length+(aI W H).length:Int)=0):=by
  simp [aw,ai,bC,Bool.beq_eq_decide_eq]
 rw [e0]
 by_cases e:(aC W H).length+(aI W H).length=0
 ·rw [decide_eq_true e,decide_eq_true (by omega)]
 ·rw [decide_eq_false e,decide_eq_false (by omega)]
end
end
section

theorem DX (a k:Nat) (ha:a<2^32) (hk:k≤32):a&&&(2^32-2^k)=a/2^k*2^k:=by
  have e:2^32-2^k=(2^(32-k)-1)<<<k:=by
    rw [Nat.shiftLeft_eq,Nat.sub_mul,←Nat.pow_add,Nat.one_mul]
    congr 2;omega
  have hlt:a>>>k<2^(32-k):=by
    rw [Nat.shiftRight_eq_div_pow]
    apply Nat.div_lt_of_lt_mul
    rw [←Nat.pow_add]
    have:k+(32-k)=32:=by omega
    rw [this];exact ha
  have h2:a/2^k*2^k=((a>>>k)&&&(2^(32-k)-1))<<<k:=by
    rw [Nat.and_two_pow_sub_one_eq_mod,Nat.mod_eq_of_lt hlt,Nat.shiftRight_eq_div_pow,Nat.shiftLeft_eq]
  rw [h2,e]
  apply Nat.eq_of_testBit_eq
  intro i
  simp only [Nat.testBit_and,Nat.testBit_shiftLeft,Nat.testBit_shiftRight]
  by_cases h:k≤i
  · have:k+(i-k)=i:=by omega
    simp [h,this]
  · simp [h]

def cl (n:Int):Nat:=if n<0 then 0 else if 32<n then 32 else n.toNat
theorem wL (n:Int):cl n≤32:=by unfold cl;split;omega;split<;>omega
theorem Fo (n:Int):cl (cl n:Int)=cl n:=by
 have:=wL n
 generalize cl n=k at*
 unfold cl
 rw [if_neg (by omega),if_neg (by omega)];omega
def jP (n:Int):Nat:=2^32-2^(32-cl n)
theorem A7 (n:Int):jP n<4294967296:=by
 have:0<2^(32-cl n):=Nat.two_pow_pos _
 unfold jP;omega
def hd (a:Nat) (n:Int):Nat:=a/2^(32-cl n)*2^(32-cl n)
theorem DY (a:Nat) (n:Int) (ha:a<4294967296):a&&&jP n=hd a n:=DX a _ ha (by omega)
theorem jt (n:Int):(n<0∧cl n=0)∨(32<n∧cl n=32)∨(0≤n∧n≤32∧(cl n:Int)=n):=by
 unfold cl
 by_cases h0:n<0
 ·exact .inl ⟨h0,by simp [h0]⟩
 ·by_cases h1:32<n
  ·exact .inr (.inl ⟨h1,by simp [h0,h1]⟩)
  ·exact .inr (.inr ⟨by omega,by omega,by simp [h0,h1];omega⟩)

def tl (b:Nat) (m:Int):Nat:=hd b m ||| (4294967295-jP m)
theorem mQ (k i:Nat) (hk:k≤32):(2^32-2^(32-k)).testBit i=(decide (32-k≤i)&&decide (i<32)):=by
 have e:2^32-2^(32-k)=(2^k-1)<<<(32-k):=by
  rw [Nat.shiftLeft_eq,Nat.sub_mul,←Nat.pow_add,Nat.one_mul]
  congr 2;omega
 rw [e,Nat.testBit_shiftLeft,Nat.testBit_two_pow_sub_one]
 by_cases h:32-k≤i
 ·simp [h];omega
 ·simp [h]
theorem B7 (k:Nat) (hk:k<32):(2^32-2^(32-k)) ||| 2^(31-k)=2^32-2^(32-(k+1)):=by
 apply Nat.eq_of_testBit_eq
 intro i
 rw [Nat.testBit_or,mQ k i (by omega),mQ (k+1) i (by omega),Nat.testBit_two_pow]
 rw [Bool.eq_iff_iff]
 simp
 omega
end
set_option maxRecDepth 100000
--PfxG
section
open Go.RowKit

def hP (a:Nat) (n:Int):Bool:=((a:Int)==(hd a n:Int))&&(n==(cl n:Int))
end
--PfxR
section
open Go.RowKit

theorem B8 {k:IntKind} {a b:Int} (h:a=b):Value.int k a= .int k b:=by rw [h]
theorem AH (k:Nat) (hk:k<32):bits .or .u32 ((4294967296-2^(32-k):Nat):Int) ((2:Int)^(31-k)%4294967296)=((2^32-2^(32-(k+1)):Nat):Int):=by
 have h1:2^(31-k)≤2^31:=Nat.pow_le_pow_right (by decide) (by omega)
 have h0:0<2^(32-k):=Nat.two_pow_pos _
 have e:((2:Int)^(31-k)%4294967296)=((2^(31-k):Nat):Int):=by
  have:((2:Int)^(31-k))=((2^(31-k):Nat):Int):=by simp
  rw [this]
  generalize 2^(31-k)=x at*
  omega
 rw [e,u32_or_nat _ _ (by omega) (by omega),←B7 k hk]
set_option maxHeartbeats 400000 in
theorem Fp (n:Int) (hn:-9223372036854775808≤n∧n≤9223372036854775807) (w:World):
    Calls Try.prog 55 #[.int .i64 n] w fun e w' =>e= .returned (.int .u32 (jP n))∧w=w' :=by
  go_enter Try.func55,Try.ntmps55
  go_wp2
  go_loop [3,4] (fun m i=>∃k:Nat,k≤cl n∧i= .int .i64 k∧m= .int .u32 ((2^32-2^(32-k):Nat):Int)) (fun _ i=>32-(intOf i).toNat)
  case atStart=>exact ⟨0,Nat.zero_le _,rfl,rfl⟩
  case round=>
    obtain ⟨k,hk,rfl,rfl⟩:=hrel
    have hcl:=wL n
    by_cases hlt:k<cl n
    · have h1:(k:Int)<n:=by rcases jt n with ⟨_,h⟩ | ⟨_,h⟩ | ⟨_,_,h⟩<;>omega
      have h2:(k:Int)<32:=by omega
      go_wp2
      go_round
      case rel=>exact ⟨k+1,by omega,by go_num,B8 (AH k (by omega))⟩
      case measure=>simp [intOf];omega
    · obtain rfl:k=cl n:=by omega
      have e1:=Lib.hid (show (2^32-2^(32-cl n):Nat)=jP n from rfl)
      by_cases h1:(cl n:Int)<n
      · have h2:¬(cl n:Int)<32:=by rcases jt n with ⟨_,h⟩ | ⟨_,h⟩ | ⟨_,_,h⟩<;>omega
        go_wp2
        go_ret
        exact ⟨rfl,rfl⟩
      · go_wp2
        go_ret
        exact ⟨rfl,rfl⟩

theorem yG (a:Nat) (n:Int) (ha:a<4294967296):(bits .andNot .u32 (a:Int) (jP n:Int)==(0:Int))=((a:Int)==(hd a n:Int)):=by
 rw [u32_andNot_nat a (jP n) ha (A7 n)]
 have hk:2^(32-cl n)≤2^32:=Nat.pow_le_pow_right (by decide) (by omega)
 have h0:0<2^(32-cl n):=Nat.two_pow_pos _
 have e:4294967295-jP n=2^(32-cl n)-1:=by unfold jP;omega
 rw [e,Nat.and_two_pow_sub_one_eq_mod]
 have h1:=Nat.div_add_mod a (2^(32-cl n))
 rw [Nat.mul_comm] at h1
 unfold hd
 rw [Bool.eq_iff_iff]
 simp only [beq_iff_eq]
 omega

set_option maxHeartbeats 400000 in
theorem Fq (a:Nat) (ha:a<4294967296) (n:Int) (hn:-9223372036854775808≤n∧n≤9223372036854775807) (w:World):
  Calls Try.prog 69 #[.agg #[.int .u32 a, .int .i64 n]] w fun e w' =>e= .returned (.bool (hP a n))∧Gr w w' :=by
 have HM:=Lib.hid fun W=>Fp n hn W
 have e1:=Lib.hid (yG a n ha)
 have d0:=iH w [.int .u32 a, .int .i64 n] 29 0 _ rfl
 have d1:=iH w [.int .u32 a, .int .i64 n] 29 1 _ rfl
 have gw:=(Gr.refl w).alloc (.cells #[.int .u32 a, .int .i64 n] 29)
 clear ha hn
 by_cases h0:0≤n
 ·by_cases h1:n≤32
  ·have e2:=Lib.hid (show hP a n=((a:Int)==(hd a n:Int)) by
    unfold hP
    rcases jt n with ⟨h,_⟩ | ⟨h,_⟩ | ⟨_,_,h⟩
    ·omega
    ·omega
    ·rw [h];simp)
   have h0' :decide ((0:Int)≤n)=true:=by simpa using h0
   have h1' :decide (n≤(32:Int))=true:=by simpa using h1
   go_enter Try.func69,Try.ntmps69
   go_wp2_with fail
   generalize w.alloc (.cells #[.int .u32 a, .int .i64 n] 29)=W at*
   have hS0:=(Gr.refl (W)).drew
   refine ft [(0,true),(1,true),(2,true),(3,true),(4,true),(5,true),(6,true),(7,true),(8,true),(9,true),(10,true),(11,true),(12,true),(13,false),(14,true),(15,true),(16,true),(17,true)] (Gr W) (by kernel_rfl) (by kernel_rfl) hS0 ?_
   simp only [fq,List.getElem?_toArray,List.getElem?_cons_zero,List.getElem?_cons_succ]
   repeat (first
    | (refine gV (by rfl) ?_;(try simp only [Act.put,List.setIfInBounds_toArray,List.set_cons_zero,List.set_cons_succ]))
    | (refine gX (by rfl) ?_;apply Exists.intro;refine ⟨fun w' hSw=> ?_, ?_⟩;(focus ((try dsimp only at hSw);go_simp;first | done | with_reducible rfl));(try simp only [Act.put,List.setIfInBounds_toArray,List.set_cons_zero,List.set_cons_succ]))
    | (refine fY (by rfl) (fun K hK=> ?_);go_simp;(first | (go_at_call 55;refine (HM.out _).mono ?_;rintro e w2 ⟨rfl,rfl⟩));refine hK _ _ (by first | exact Gr.trans (by assumption) hb2 | assumption | exact Gr.alloc (by assumption) _) (fun hSn=> ?_);clear hK K;(try simp only [Act.put,List.setIfInBounds_toArray,List.set_cons_zero,List.set_cons_succ]))
    | (refine fY (by rfl) (fun K hK=> ?_);go_simp;refine hK _ _ (by first | exact Gr.trans (by assumption) hb2 | assumption | exact Gr.alloc (by assumption) _) (fun hSn=> ?_);clear hK K;(try simp only [Act.put,List.setIfInBounds_toArray,List.set_cons_zero,List.set_cons_succ])))
   refine ix ?_
   go_wp2
   go_ret
   exact ⟨by rw [e2.out,←e1.out];rfl,gw.drew⟩
  ·have e2:=Lib.hid (show hP a n=false by
    unfold hP
    rcases jt n with ⟨h,_⟩ | ⟨h,h2⟩ | ⟨_,_,h⟩
    ·omega
    ·rw [h2];simp;omega
    ·omega)
   have h0' :decide ((0:Int)≤n)=true:=by simpa using h0
   have h1' :decide (n≤(32:Int))=false:=by simpa using h1
   go_enter Try.func69,Try.ntmps69
   go_wp2_with fail
   generalize w.alloc (.cells #[.int .u32 a, .int .i64 n] 29)=W at*
   have hS0:=(Gr.refl (W)).drew
   refine ft [(0,true),(1,true),(2,true),(3,true),(4,true),(5,true),(6,true),(7,true),(8,true),(9,true),(10,true),(11,true),(12,true),(13,false),(14,true),(15,true),(16,true),(17,true)] (Gr W) (by kernel_rfl) (by kernel_rfl) hS0 ?_
   simp only [fq,List.getElem?_toArray,List.getElem?_cons_zero,List.getElem?_cons_succ]
   repeat (first
    | (refine gV (by rfl) ?_;(try simp only [Act.put,List.setIfInBounds_toArray,List.set_cons_zero,List.set_cons_succ]))
    | (refine gX (by rfl) ?_;apply Exists.intro;refine ⟨fun w' hSw=> ?_, ?_⟩;(focus ((try dsimp only at hSw);go_simp;first | done | with_reducible rfl));(try simp only [Act.put,List.setIfInBounds_toArray,List.set_cons_zero,List.set_cons_succ]))
    | (refine fY (by rfl) (fun K hK=> ?_);go_simp;refine hK _ _ (by first | exact Gr.trans (by assumption) hb2 | assumption | exact Gr.alloc (by assumption) _) (fun hSn=> ?_);clear hK K;(try simp only [Act.put,List.setIfInBounds_toArray,List.set_cons_zero,List.set_cons_succ])))
   refine ix ?_
   go_wp2
   go_ret
   exact ⟨by rw [e2.out];rfl,gw.drew⟩
 ·have e2:=Lib.hid (show hP a n=false by
   unfold hP
   rcases jt n with ⟨h,h2⟩ | ⟨h,h2⟩ | ⟨_,_,h⟩
   ·rw [h2];simp;omega
   ·omega
   ·omega)
  have h0' :decide ((0:Int)≤n)=false:=by simpa using h0
  go_enter Try.func69,Try.ntmps69
  go_wp2_with fail
  generalize w.alloc (.cells #[.int .u32 a, .int .i64 n] 29)=W at*
  have hS0:=(Gr.refl (W)).drew
  refine ft [(0,true),(1,true),(2,true),(3,true),(4,true),(5,true),(6,true),(7,true),(8,true),(9,true),(10,true),(11,true),(12,true),(13,false),(14,true),(15,true),(16,true),(17,true)] (Gr W) (by kernel_rfl) (by kernel_rfl) hS0 ?_
  simp only [fq,List.getElem?_toArray,List.getElem?_cons_zero,List.getElem?_cons_succ]
  repeat (first
   | (refine gV (by rfl) ?_;(try simp only [Act.put,List.setIfInBounds_toArray,List.set_cons_zero,List.set_cons_succ]))
   | (refine gX (by rfl) ?_;apply Exists.intro;refine ⟨fun w' hSw=> ?_, ?_⟩;(focus ((try dsimp only at hSw);go_simp;first | done | with_reducible rfl));(try simp only [Act.put,List.setIfInBounds_toArray,List.set_cons_zero,List.set_cons_succ]))
   | (refine fY (by rfl) (fun K hK=> ?_);go_simp;refine hK _ _ (by first | exact Gr.trans (by assumption) hb2 | assumption | exact Gr.alloc (by assumption) _) (fun hSn=> ?_);clear hK K;(try simp only [Act.put,List.setIfInBounds_toArray,List.set_cons_zero,List.set_cons_succ])))
  refine ix ?_
  go_wp2
  go_ret
  exact ⟨by rw [e2.out];rfl,gw.drew⟩

end
--PRLaw
section
open Go.RowKit Go.Sort Go.Shelf

instance (x y:Px):Decidable (bL x y):=by unfold bL;infer_instance
end
--Pfx4
section
open Go.RowKit

set_option maxHeartbeats 400000 in
theorem Gg (a n b m:Int) (w:World):
    Calls Try.prog 102 #[.agg #[.int .u32 a, .int .i64 n], .agg #[.int .u32 b, .int .i64 m]] w fun e w' =>e= .returned (.int .i64 (dH a n b m))∧Gr w w' :=by
  have gw:=((Gr.refl w).alloc (.cells #[.int .u32 a, .int .i64 n] 29)).alloc (.cells #[.int .u32 b, .int .i64 m] 29)
  by_cases h0:a=b
  · subst h0
    have f0:¬a<a:=by omega
    have f0' :(a==a)=true:=by simp
    by_cases h1:n=m
    · subst h1
      have e1:=Lib.hid (show dH a n a n=0 by simp [dH,im,fj])
      have f1' :(n==n)=true:=by simp
      go_enter Try.func102,Try.ntmps102
      go_wp2
      go_ret
      exact ⟨by rw [e1.out];rfl,gw⟩
    · have f1' :(n==m)=false:=by simpa using h1
      rcases Int.lt_trichotomy n m with h2 | h2 | h2
      · have e1:=Lib.hid (show dH a n a m=-1 by simp [dH,im,fj,h2])
        clear h1
        go_enter Try.func102,Try.ntmps102
        go_wp2
        go_ret
        exact ⟨by rw [e1.out];rfl,gw⟩
      · exact absurd h2 h1
      · have h3:¬n<m:=by omega
        have e1:=Lib.hid (show dH a n a m=1 by simp [dH,im,fj,h2,h3])
        clear h1
        go_enter Try.func102,Try.ntmps102
        go_wp2
        go_ret
        exact ⟨by rw [e1.out];rfl,gw⟩
  · have f0' :(a==b)=false:=by simpa using h0
    rcases Int.lt_trichotomy a b with h2 | h2 | h2
    · have e1:=Lib.hid (show dH a n b m=-1 by simp [dH,im,fj,h2])
      clear h0
      go_enter Try.func102,Try.ntmps102
      go_wp2
      go_ret
      exact ⟨by rw [e1.out];rfl,gw⟩
    · exact absurd h2 h0
    · have h3:¬a<b:=by omega
      have e1:=Lib.hid (show dH a n b m=1 by simp [dH,im,fj,h2,h3])
      clear h0
      go_enter Try.func102,Try.ntmps102
      go_wp2
      go_ret
      exact ⟨by rw [e1.out];rfl,gw⟩
end
--PRRef
section
open Go.RowKit

theorem Fr (a n b m:Int):VCalls Try.prog 102 [.agg (jm a n), .agg (jm b m)] ⟨[], []⟩ fun x T' =>x= .val (.int .i64 (dH a n b m))∧T' =⟨[], []⟩:=
 VCalls.of_grT (us:= [.agg #[.int .u32 a, .int .i64 n], .agg #[.int .u32 b, .int .i64 m]]) rfl (fun w=>Gg a n b m w) _
end
section
open Go.RowKit
set_option maxRecDepth 100000

def gD (a n:Int):Prop:=(0≤a∧a<4294967296)∧(-9223372036854775808≤n∧n≤9223372036854775807)
def DZ (l:List TV) (ok:Bool):Prop:=∃(p:Px) (a:AtV) (g:Bool),l=fm p.1 p.2 a g∧gD p.1 p.2∧a.p.length≤9223372036854775807∧ok=eU p a g
def aB (r:aj):List TV:= [.val (.int .u32 r.1.1), .val (.int .i64 r.1.2)]++r.2.cells
def ex (W:List aj):Prop:=W.length≤1000∧∀r∈W,r.2.p.length≤2000000
def AI (L:Bs) (a n:Int) (y:AtV) (b:Bool):Prop:=∃W:List aj,L=W.map aB∧ex W∧y=cf W (a,n)∧b=ba W (a,n)
def wM (L:Bs) (a n:Int) (R:Bs):Prop:=∃W:List aj,L=W.map aB∧ex W∧R=(ax W (a,n)).map aB
def tB (L:Bs) (l:List TV) (R:Bs):Prop:=∃(W:List aj) (r:aj),L=W.map aB∧l=aB r∧ex W∧r.2.p.length≤2000000∧R=(bN W r).map aB
theorem yH (n:Int):nI n=(cl n:Int):=by
 unfold nI cl
 repeat (split<;>try omega)
theorem Fs (n:Nat) (h:n≤32):sY (n:Int)=(jP (n:Int):Int):=by
 have e:cl (n:Int)=n:=by
  unfold cl
  split
  ·omega
  ·split<;>omega
 have h1:(32-(n:Int)).toNat=32-n:=by omega
 have h2:2^(32-n)≤2^32:=Nat.pow_le_pow_right (by decide) (by omega)
 unfold sY jP
 rw [e,h1]
 have h3:((2^32-2^(32-n):Nat):Int)=4294967296-((2^(32-n):Nat):Int):=by omega
 rw [h3]
 simp
theorem B9 (a:Nat) (n:Int) (ha:a<4294967296):bits .and .u32 (a:Int) (jP n:Int)=(hd a n:Int):=by
 rw [u32_and_nat a (jP n) ha (A7 n),DY a n ha]
theorem Ca (a:Nat) (ha:a<4294967296) (n:Int):hP a n=fh (a:Int) n:=by
 have h:=B9 a (cl n:Int) ha
 have hc:=wL n
 have e1:s5 (a:Int) n=(hd a n:Int):=by
  unfold s5 FQ
  rw [yH,Fs _ hc]
  have e2:hd a (cl n:Int)=hd a n:=by unfold hd;rw [Fo]
  rw [e2] at h
  exact h
 unfold hP fh
 rw [e1,yH]
 congr 1
end

end Go.Proofs.Ytnfplefcghadfaa