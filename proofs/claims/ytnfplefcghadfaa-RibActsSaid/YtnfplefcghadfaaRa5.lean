/-Part 5 of the proof of ribActs_holds:RbA,RbB,RbC ... No condition. -/
import Derived.Laws.BitsAllLaws
import Derived.Shelf.SlSortCmp.NoneTotal
import Derived.Test.YtnfplefcghadfaaRa1
import Derived.Test.YtnfplefcghadfaaRa2
import Derived.Test.YtnfplefcghadfaaRa3
import Derived.Test.YtnfplefcghadfaaRa4
set_option maxRecDepth 100000
namespace Go.Proofs.Ytnfplefcghadfaa
section
open Go.RowKit

abbrev ec:=108
abbrev Hh:=107
abbrev tq:=76
noncomputable def eS:Code:=match cC (ii Try.prog Hh) with
 | some (a,_)=>a
 | none=> .skip
noncomputable def dH:Code:=match cC (ii Try.prog Hh) with
 | some (_,b)=>b
 | none=> .skip
def kP:KS:=⟨true, [.int .u32, .int .i64]⟩
def uT:TV:= .val (.tuple #[])
def bH (p:Px):Value:= .agg #[.int .u32 p.1, .int .i64 p.2]
def qi:Value→Px
 | .agg #[.int _ a, .int _ n]=>(a,n)
 | _=>(0,0)
structure MkOk (lk:Value→Option TV) (es:List (Value × TV × Nat)) (ck:Nat):Prop where
 keys:∀e∈es,∃p,e.1=bH p
 born:∀e∈es,e.2.2<ck
 borns:(es.map (·.2.2)).Nodup
 ren:∀f g,VO.ren f g (.map kP lk es ck)= .map kP lk es ck
 few:es.length≤2000000
def kL (es:List (Value × TV × Nat)):List Px:=es.map fun e=>qi e.1
def xP:List Px→TV
 | []=> .val (.slice none 0 0)
 | p::l=> .vec 2 ((p::l).map aw) (.tail 0 (p::l).length)
def tP:List Px→bA
 | []=> []
 | p::l=> [((p::l).length,2,true)]
def mL (es:List (Value × TV × Nat)) (x:TV) (tl:bA):Prop:=∃l:List Px,l.Perm (kL es)∧x=xP l∧tl=tP l
def D3:List TV:= [.val (.slice none 0 0), .fn (.func ec) [] [.ptr 1 0], .ptr 2 0,uT, .val (.slice none 0 0),uT, .fn (.func ec) [] [.ptr 1 0],uT,uT,uT,uT,uT,uT]
noncomputable def pu (lk:Value→Option TV) (es:List (Value × TV × Nat)) (ck:Nat) (x:TV) (tl:bA) (seen:List Nat):VT:=⟨[.map kP lk es ck, .cells [.map 0], .cells [x], .defd, .loop .ready none D3 #[7] eS dH, .iter (.map 0) ck seen ck],tl⟩
def HT:List TV:= [.yld 4, .ptr 1 0, .dead, .dead, .map 0, .ptr 5 0]++List.replicate 8 .dead
noncomputable def HU (enA enN:List Nat→Int) (enV:List Nat→TV):dS:=fun (o:Oper) (_:List TV) (T:VT)=>match o.dst with
 | some 8=>match T.objs[5]? with
  | some (VO.iter _ _ seen _)=>some (.tup [.val (.agg #[.int .u32 (enA seen), .int .i64 (enN seen)]),enV seen],some T)
  | _=>none
 | _=>none
noncomputable def tr (lk:Value→Option TV) (es:List (Value × TV × Nat)) (ck:Nat):VT:=⟨[.map kP lk es ck, .cells [.map 0], .cells [.val (.slice none 0 0)], .defd, .loop .ready none D3 #[7] eS dH], []⟩
def D4 (es:List (Value × TV × Nat)) (T:VT):Prop:=∃lk ck,MkOk lk es ck∧T=tr lk es ck
def D5 (es:List (Value × TV × Nat)):aJ:=fun ro ys T K=>match ys with
 | [.yld 4, .ptr 1 0]=>(ro=0∧D4 es T)∧∀(x:TV) (tl:bA),mL es x tl→K (.tup []) ⟨T.objs.set 2 (.cells [x]),tl⟩
 | _=>ar 83 default ys
noncomputable def HV (lx:List Nat→Bs) (tx:List Nat→Tok) (gx:List Nat→bA):dS:=fun (o:Oper) (_:List TV) (T:VT)=>match o.dst with
 | some 11=>match T.objs[5]? with
  | some (VO.iter _ _ seen _)=>some (.vec 2 (lx seen) (tx seen),some {T with tails:=gx seen})
  | _=>none
 | _=>none
def qj:List Nat:= [0,1,4,5]
def rj:List TV:= [.yld 4, .ptr 1 0, .map 0, .ptr 5 0]
noncomputable def Hx (lk:Value→Option TV) (es:List (Value × TV × Nat)) (ck:Nat) (c0:Code):Nat→Option (bu × Code):=cw [(0,dE 14 qj [] rj (pu lk es ck (.val (.slice none 0 0)) [] []) (fun K=>∀(x:TV) (tl:bA) (seen:List Nat),mL es x tl→K .normal (aG 14 qj rj) (pu lk es ck x tl seen) []),c0)]
theorem Gk (lk:Value→Option TV) (es:List (Value × TV × Nat)) (ck:Nat) (x1:TV) (lx:List Nat→Bs) (tx:List Nat→Tok) (gx:List Nat→bA) (tl:bA) (seen:List Nat) (eA eN:List Nat→Int) (eV:List Nat→TV) (Q:Exit→List TV→VT→List Nat→Nat→Prop):vx Try.prog ac aL (HU eA eN eV) 300 (j9 1000001 (Bi 5 6 7,aX Try.prog ec 1) 1000003 (wJ Try.prog ac aL (HV lx tx gx) 250 (aX Try.prog ec 3),aX Try.prog ec 3)) none 0 (b6 Try.prog ec 0) HT (pu lk es ck x1 tl seen) [] (cB qj Q)=
 ((aX Try.prog ec (1:Nat)=aX Try.prog ec (1:Nat))∧
 (((@Eq (Bool) true true)∧
 ((@Eq (Bool) (fP seen ck es) false)∧
 (@Eq (Bool) true true)))∧
 ((wK (ck) (seen) (es)→Q (.exit 0) [(.yld 4),(.ptr 1 0),(.map 0),(.ptr 5 0)] ⟨[(.map ⟨true, [(.int .u32),(.int .i64)]⟩ (lk) (es) (ck)),(.cells [(.map 0)]),(.cells [(x1)]), .defd,(.loop .ready .none [(.val (.slice .none 0 0)),(.fn (.func 108) [] [(.ptr 1 0)]),(.ptr 2 0),(.val (.tuple #[])),(.val (.slice .none 0 0)),(.val (.tuple #[])),(.fn (.func 108) [] [(.ptr 1 0)]),(.val (.tuple #[])),(.val (.tuple #[])),(.val (.tuple #[])),(.val (.tuple #[])),(.val (.tuple #[])),(.val (.tuple #[]))] #[7] eS dH),(.iter (.map 0) (ck) (seen) (ck))],(tl)⟩ [] 14)∧
 (∀k:Value,(∀v:TV,(∀s:Nat,(wL (k) (v) (s) (ck) (seen) (es)→(bp Try.prog (fun _=> .none) 0 ⟨[(.map ⟨true, [(.int .u32),(.int .i64)]⟩ (lk) (es) (ck)),(.cells [(.map 0)]),(.cells [(x1)]), .defd,(.loop .ready .none [(.val (.slice .none 0 0)),(.fn (.func 108) [] [(.ptr 1 0)]),(.ptr 2 0),(.val (.tuple #[])),(.val (.slice .none 0 0)),(.val (.tuple #[])),(.fn (.func 108) [] [(.ptr 1 0)]),(.val (.tuple #[])),(.val (.tuple #[])),(.val (.tuple #[])),(.val (.tuple #[])),(.val (.tuple #[])),(.val (.tuple #[]))] #[7] eS dH),(.iter (.map 0) (ck) (seen++ [s]) (ck))],(tl)⟩ (.entry (.tmp 5)) [(5,(.ptr 5 0))] (.tup [(.val (.agg #[(.int .u32 (eA (seen++ [s]))),(.int .i64 (eN (seen++ [s])))])),(eV (seen++ [s]))]) ⟨[(.map ⟨true, [(.int .u32),(.int .i64)]⟩ (lk) (es) (ck)),(.cells [(.map 0)]),(.cells [(x1)]), .defd,(.loop .ready .none [(.val (.slice .none 0 0)),(.fn (.func 108) [] [(.ptr 1 0)]),(.ptr 2 0),(.val (.tuple #[])),(.val (.slice .none 0 0)),(.val (.tuple #[])),(.fn (.func 108) [] [(.ptr 1 0)]),(.val (.tuple #[])),(.val (.tuple #[])),(.val (.tuple #[])),(.val (.tuple #[])),(.val (.tuple #[])),(.val (.tuple #[]))] #[7] eS dH),(.iter (.map 0) (ck) (seen++ [s]) (ck))],(tl)⟩∧
 ((aX Try.prog ec (3:Nat)=aX Try.prog ec (3:Nat))∧
 (bp Try.prog (fun _=> .none) 0 ⟨[(.map ⟨true, [(.int .u32),(.int .i64)]⟩ (lk) (es) (ck)),(.cells [(.map 0)]),(.cells [(x1)]), .defd,(.loop .busy .none [(.val (.slice .none 0 0)),(.fn (.func 108) [] [(.ptr 1 0)]),(.ptr 2 0),(.val (.tuple #[])),(.val (.slice .none 0 0)),(.val (.tuple #[])),(.fn (.func 108) [] [(.ptr 1 0)]),(.val (.tuple #[])),(.val (.tuple #[])),(.val (.tuple #[])),(.val (.tuple #[])),(.val (.tuple #[])),(.val (.tuple #[]))] #[7] eS dH),(.iter (.map 0) (ck) (seen++ [s]) (ck)),(.cells [(.val (.int .u32 (eA (seen++ [s])))),(.val (.int .i64 (eN (seen++ [s]))))]),(.cells [(.val (.int .u32 (eA (seen++ [s])))),(.val (.int .i64 (eN (seen++ [s]))))])],(tl)⟩ (.call ⟨(.builtin .append), #[(.tmp 8),(.tmp 10)], #[42,42]⟩) [(8,(x1)),(10,(.vec 2 [[(.val (.int .u32 (eA (seen++ [s])))),(.val (.int .i64 (eN (seen++ [s]))))]] .full))] (.vec 2 (lx (seen++ [s])) (tx (seen++ [s]))) ⟨[(.map ⟨true, [(.int .u32),(.int .i64)]⟩ (lk) (es) (ck)),(.cells [(.map 0)]),(.cells [(x1)]), .defd,(.loop .busy .none [(.val (.slice .none 0 0)),(.fn (.func 108) [] [(.ptr 1 0)]),(.ptr 2 0),(.val (.tuple #[])),(.val (.slice .none 0 0)),(.val (.tuple #[])),(.fn (.func 108) [] [(.ptr 1 0)]),(.val (.tuple #[])),(.val (.tuple #[])),(.val (.tuple #[])),(.val (.tuple #[])),(.val (.tuple #[])),(.val (.tuple #[]))] #[7] eS dH),(.iter (.map 0) (ck) (seen++ [s]) (ck)),(.cells [(.val (.int .u32 (eA (seen++ [s])))),(.val (.int .i64 (eN (seen++ [s]))))]),(.cells [(.val (.int .u32 (eA (seen++ [s])))),(.val (.int .i64 (eN (seen++ [s]))))])],(gx (seen++ [s]))⟩∧
 Q .normal [(.yld 4),(.ptr 1 0),(.map 0),(.ptr 5 0)] ⟨[(.map ⟨true, [(.int .u32),(.int .i64)]⟩ (lk) (es) (ck)),(.cells [(.map 0)]),(.cells [(.vec 2 (lx (seen++ [s])) (tx (seen++ [s])))]), .defd,(.loop .ready .none [(.val (.slice .none 0 0)),(.fn (.func 108) [] [(.ptr 1 0)]),(.ptr 2 0),(.val (.tuple #[])),(.val (.slice .none 0 0)),(.val (.tuple #[])),(.fn (.func 108) [] [(.ptr 1 0)]),(.val (.tuple #[])),(.val (.tuple #[])),(.val (.tuple #[])),(.val (.tuple #[])),(.val (.tuple #[])),(.val (.tuple #[]))] #[7] eS dH),(.iter (.map 0) (ck) (seen++ [s]) (ck)),(.cells [(.val (.int .u32 (eA (seen++ [s])))),(.val (.int .i64 (eN (seen++ [s]))))]),(.cells [(.val (.int .u32 (eA (seen++ [s])))),(.val (.int .i64 (eN (seen++ [s]))))])],(gx (seen++ [s]))⟩ [] 14)))))))))):=by kernel_rfl
theorem Gl (lk:Value→Option TV) (es:List (Value × TV × Nat)) (ck:Nat) (Q:TV→VT→Prop):aq Try.prog ac (aD [(ec,D5 es)]) aM 300 aE 0 tq [.fn (.func ec) [] [.ptr 1 0]] ⟨[.map kP lk es ck, .cells [.map 0]], []⟩ Q=
 (((@Eq (Nat) 0 0)∧
 D4 (es) ⟨[(.map ⟨true, [(.int .u32),(.int .i64)]⟩ (lk) (es) (ck)),(.cells [(.map 0)]),(.cells [(.val (.slice .none 0 0))]), .defd,(.loop .ready .none [(.val (.slice .none 0 0)),(.fn (.func 108) [] [(.ptr 1 0)]),(.ptr 2 0),(.val (.tuple #[])),(.val (.slice .none 0 0)),(.val (.tuple #[])),(.fn (.func 108) [] [(.ptr 1 0)]),(.val (.tuple #[])),(.val (.tuple #[])),(.val (.tuple #[])),(.val (.tuple #[])),(.val (.tuple #[])),(.val (.tuple #[]))] #[7] eS dH)], []⟩)∧
 (∀x:TV,(∀tl:bA,(mL (es) (x) (tl)→Q (x) ⟨[(.map ⟨true, [(.int .u32),(.int .i64)]⟩ (lk) (es) (ck)),(.cells [(.map 0)]),(.cells [(x)]), .gone,(.loop .exhausted .none [(.val (.slice .none 0 0)),(.fn (.func 108) [] [(.ptr 1 0)]),(.ptr 2 0),(.val (.tuple #[])),(.val (.slice .none 0 0)),(.val (.tuple #[])),(.fn (.func 108) [] [(.ptr 1 0)]),(.val (.tuple #[])),(.val (.tuple #[])),(.val (.tuple #[])),(.val (.tuple #[])),(.val (.tuple #[])),(.val (.tuple #[]))] #[7] eS dH)],(tl)⟩)))):=by kernel_rfl
theorem Gm (lk:Value→Option TV) (es:List (Value × TV × Nat)) (ck:Nat) (Q:TV→VT→Prop):aq Try.prog ac aL aM 300 (Hx lk es ck (au Try.prog ec 0)) 0 ec [.yld 4, .ptr 1 0] (tr lk es ck) Q=
 ((au Try.prog ec (0:Nat)=au Try.prog ec (0:Nat))∧
 (((@Eq (Option Nat) .none .none)∧
 ((@Eq (Nat) 0 0)∧
 ((@Eq (List Nat) [] [])∧
 (True  ∧
 ((@Eq (VT) ⟨[(.map ⟨true, [(.int .u32),(.int .i64)]⟩ (lk) (es) (ck)),(.cells [(.map 0)]),(.cells [(.val (.slice .none 0 0))]), .defd,(.loop .ready .none [(.val (.slice .none 0 0)),(.fn (.func 108) [] [(.ptr 1 0)]),(.ptr 2 0),(.val (.tuple #[])),(.val (.slice .none 0 0)),(.val (.tuple #[])),(.fn (.func 108) [] [(.ptr 1 0)]),(.val (.tuple #[])),(.val (.tuple #[])),(.val (.tuple #[])),(.val (.tuple #[])),(.val (.tuple #[])),(.val (.tuple #[]))] #[7] eS dH),(.iter (.map 0) (ck) [] (ck))], []⟩ ⟨[(.map ⟨true, [(.int .u32),(.int .i64)]⟩ (lk) (es) (ck)),(.cells [(.map 0)]),(.cells [(.val (.slice .none 0 0))]), .defd,(.loop .ready .none [(.val (.slice .none 0 0)),(.fn (.func 108) [] [(.ptr 1 0)]),(.ptr 2 0),(.val (.tuple #[])),(.val (.slice .none 0 0)),(.val (.tuple #[])),(.fn (.func 108) [] [(.ptr 1 0)]),(.val (.tuple #[])),(.val (.tuple #[])),(.val (.tuple #[])),(.val (.tuple #[])),(.val (.tuple #[])),(.val (.tuple #[]))] #[7] eS dH),(.iter (.map 0) (ck) [] (ck))], []⟩)∧
 ((@Eq (Bool) true true)∧
 (@Eq (List TV) [(.yld 4),(.ptr 1 0),(.map 0),(.ptr 5 0)] [(.yld 4),(.ptr 1 0),(.map 0),(.ptr 5 0)])))))))∧
 (∀x:TV,(∀tl:bA,(∀seen:List Nat,(mL (es) (x) (tl)→Q (.tup []) ⟨[(.map ⟨true, [(.int .u32),(.int .i64)]⟩ (lk) (es) (ck)),(.cells [(.map 0)]),(.cells [(x)]), .defd,(.loop .ready .none [(.val (.slice .none 0 0)),(.fn (.func 108) [] [(.ptr 1 0)]),(.ptr 2 0),(.val (.tuple #[])),(.val (.slice .none 0 0)),(.val (.tuple #[])),(.fn (.func 108) [] [(.ptr 1 0)]),(.val (.tuple #[])),(.val (.tuple #[])),(.val (.tuple #[])),(.val (.tuple #[])),(.val (.tuple #[])),(.val (.tuple #[]))] #[7] eS dH),(.iter (.map 0) (ck) (seen) (ck))],(tl)⟩)))))):=by kernel_rfl
end
section
open Go.RowKit

theorem tu (p:Px):qi (bH p)=p:=rfl
theorem mM (l:List Px) (f:Nat→Option Nat):(xP l).ren f (an 1)=xP l:=by
 cases l with
 | nil=>rfl
 | cons p l=>simp only [xP,TV.ren,de,Tok.ren];rfl
theorem im (l:List Px):(tP l).length≤1:=by cases l<;>simp [tP]
theorem tv (l:List Px) (p:Px):xP (l++ [p])= .vec 2 ((l++ [p]).map aw) (.tail 0 (l++ [p]).length):=by cases l<;>rfl
theorem tw (l:List Px) (p:Px):tP (l++ [p])= [((l++ [p]).length,2,true)]:=by cases l<;>rfl
theorem mN:∃(inf:TypeInfo) (z:Value),Try.prog.info? 29=some inf∧inf.size=2∧inf.bytes+1≤100∧inf.zero=some z∧z.cells.size=2:=
 ⟨(Try.prog.info? 29).getD default,((Try.prog.info? 29).getD default).zero.getD default,by kernel_rfl,by kernel_rfl,Nat.le_of_ble_eq_true (by kernel_rfl),by kernel_rfl,by kernel_rfl⟩
theorem D6 (objs:List VO) (l:List Px) (p:Px) (h:l.length≤2000000):bp Try.prog ac 0 ⟨objs,tP l⟩ (.call ⟨.builtin .append, #[.tmp 8, .tmp 10], #[42,42]⟩) [(8,xP l),(10, .vec 2 [aw p] .full)] (.vec 2 ((l++ [p]).map aw) (.tail 0 (l++ [p]).length)) ⟨objs,tP (l++ [p])⟩:=by
  obtain ⟨inf,z,i1,i2,i3,i4,i5⟩:=mN
  have h1:=ef (inf:=inf) (P:=Try.prog) (G:=ac) (ro:=0) (T:=⟨objs,tP l⟩) (T1:=⟨objs, [(l.length,2,true)]⟩) (t:=42) (tx:=42) (s:= .tmp 8) (x:= .tmp 10) (l:= [(8,xP l),(10, .vec 2 [aw p] .full)]) (es:=l.map aw) (es2:= [aw p]) (k:=0) (n:=l.length) (bn:=true) Try.underlying42 i1 i4 (by rw [i5,i2]) (by rw [i2];omega) (by kernel_rfl)
    (by rw [i2];cases l<;>simp [aO,bS,dz,xP,tP]) (by rw [i2];rfl)
    (by have h1:=i3
        have h2:=Nat.mul_le_mul (show (l.map aw).length+ [aw p].length≤2000001 by simp only [List.length_map,List.length_cons,List.length_nil];omega) h1
        omega)
  rw [i2] at h1
  rw [tw]
  rw [show (l++ [p]).map aw=l.map aw++ [aw p] by rw [List.map_append];rfl,show (l++ [p]).length=l.length+ [aw p].length by simp]
  exact h1
section
variable {lk:Value→Option TV} {es:List (Value × TV × Nat)} {ck:Nat}
def om (es:List (Value × TV × Nat)) (s:Nat):Value × TV × Nat:=(es.find? fun e=>Nat.beq e.2.2 s).getD (.bool false, .dead,0)
def cR (es:List (Value × TV × Nat)) (s:Nat):Px:=qi (om es s).1
theorem tz:∀{es:List (Value × TV × Nat)} {e:Value × TV × Nat},(es.map (·.2.2)).Nodup→e∈es→es.find? (fun x=>Nat.beq x.2.2 e.2.2)=some e
 | [],_,_,h=>by cases h
 | a::es,e,hn,h=>by
  rw [List.find?_cons]
  rcases List.mem_cons.1 h with rfl | h
  ·rw [Nat.beq_refl]
  ·have hne:Nat.beq a.2.2 e.2.2=false:=by
    cases hb:Nat.beq a.2.2 e.2.2 with
    | false=>rfl
    | true=>
     have he:=Nat.eq_of_beq_eq_true hb
     have:=(List.nodup_cons.1 hn).1
     exact absurd (by show a.2.2∈_;rw [he];exact List.mem_map_of_mem (f:=fun e:Value × TV × Nat=>e.2.2) h) this
   rw [hne]
   exact tz (List.nodup_cons.1 hn).2 h
theorem MkOk.lost (h:MkOk lk es ck) (seen:List Nat):fP seen ck es=false:=by
 unfold fP
 cases es with
 | nil=>simp
 | cons e l=>
  have:=h.born e List.mem_cons_self
  have h1:decide (ck≤e.2.2)=false:=decide_eq_false (by omega)
  simp [h1]
theorem MkOk.new (h:MkOk lk es ck) (seen:List Nat):fv ck seen es= []:=by
 unfold fv
 refine List.filter_eq_nil_iff.2 fun e he=> ?_
 have:=h.born e he
 simp [this]
theorem MkOk.nx (h:MkOk lk es ck) {seen:List Nat} {k:Value} {v:TV} {s:Nat} (hx:wL k v s ck seen es):(k,v,s)∈es∧s∉seen:=by
 unfold wL at hx
 rw [h.new,List.append_nil] at hx
 unfold ce at hx
 obtain ⟨h1,h2⟩:=List.mem_filter.1 hx
 refine ⟨h1, ?_⟩
 simp at h2
 exact h2.1
theorem MkOk.no (h:MkOk lk es ck) {seen:List Nat} (hx:wK ck seen es):∀e∈es,e.2.2∈seen:=by
 intro e he
 have:=List.filter_eq_nil_iff.1 hx e he
 have hb:=h.born e he
 simp [hb] at this
 exact this
def KyInv (es:List (Value × TV × Nat)) (seen:List Nat):Prop:=seen.Nodup∧∀s∈seen,s∈es.map (·.2.2)
theorem KyInv.le {seen:List Nat} (h:KyInv es seen):seen.length≤es.length:=by
 have:=h.1.length_le_of_subset (l₂:=es.map (·.2.2)) (fun s hs=>h.2 s hs)
 simpa using this
theorem D7 (h:MkOk lk es ck):(es.map (·.2.2)).map (cR es)=kL es:=by
 rw [List.map_map]
 unfold kL
 refine List.map_congr_left fun e he=> ?_
 show qi (om es e.2.2).1=_
 rw [om,tz h.borns he];rfl
theorem KyInv.done (h:MkOk lk es ck) {seen:List Nat} (hi:KyInv es seen) (hx:wK ck seen es):(seen.map (cR es)).Perm (kL es):=by
 rw [←D7 h]
 refine List.Perm.map _ ((List.perm_ext_iff_of_nodup hi.1 h.borns).2 fun a=>⟨hi.2 a,fun ha=> ?_⟩)
 obtain ⟨e,he,rfl⟩:=List.mem_map.1 ha
 exact h.no hx e he
theorem MkOk.at (h:MkOk lk es ck) {k:Value} {v:TV} {s:Nat} (hm:(k,v,s)∈es):k=bH (cR es s)∧v=(om es s).2.1∧es.find? (fun x=>Nat.beq x.2.2 s)=some (k,v,s):=by
 have h1:=tz h.borns hm
 obtain ⟨p,hp⟩:=h.keys _ hm
 simp only at h1 hp
 refine ⟨?_, ?_,h1⟩
 ·rw [cR,om,h1,Option.getD_some,hp,tu]
 ·rw [om,h1,Option.getD_some]
noncomputable def oq (lk:Value→Option TV) (es:List (Value × TV × Nat)) (ck:Nat) (seen:List Nat):VT:=pu lk es ck (xP (seen.map (cR es))) (tP (seen.map (cR es))) seen
theorem yC (h:MkOk lk es ck) (seen:List Nat) (l:List VO):VT.keep ⟨(oq lk es ck seen).objs++l,(oq lk es ck seen).tails⟩ 6 1=oq lk es ck seen:=by
 have e:=h.ren (an 6) (an 1)
 have e2:(tP (seen.map (cR es))).take 1=tP (seen.map (cR es)):=List.take_of_length_le (im _)
 simp only [VT.keep,oq,pu,List.cons_append,List.nil_append,List.take_succ_cons,List.take_zero,List.map_cons,List.map_nil,e,e2]
 simp only [VO.ren,av,mM]
 rfl
theorem CD (h:MkOk lk es ck) (K:KX) (hK:∀(x:TV) (tl:bA) (seen:List Nat),mL es x tl→K .normal (aG 14 qj rj) (pu lk es ck x tl seen) []):
    VWx Try.prog ac none 0 (au Try.prog ec 0) (aG 14 qj rj) (pu lk es ck (.val (.slice none 0 0)) [] []) [] K:=by
  refine da (f:=ec) (id:=0) (by kernel_rfl) 14 qj (fun s:List Nat=>es.length-s.length) (fun _=>rj) (oq lk es ck) (KyInv es) 6 1 (fun s _=>⟨Nat.le_refl _,im _⟩)
    (fun e vs T=>e= .normal∧vs=rj∧∃x tl seen,mL es x tl∧T=pu lk es ck x tl seen) (fun seen hs=> ?_) [] ⟨List.nodup_nil,fun s h=>by cases h⟩ K ?_
  rotate_left
  · rintro e vs T ⟨rfl,rfl,x,tl,seen,h1,rfl⟩
    exact hK x tl seen h1
  have hL:∀F2:dS,cK Try.prog ac (j9 1000001 (Bi 5 6 7,aX Try.prog ec 1) 1000003 (wJ Try.prog ac aL F2 250 (aX Try.prog ec 3),aX Try.prog ec 3)):=
    fun F2=>qg (Dw (by kernel_rfl)) (fun rd ro σ T D K h=>Ck ae aa ag (F2:=F2) (n:=250) (c:=aX Try.prog ec 3) rd ro σ T D K h)
  have hle:=hs.le
  have hf:=h.few
  let lst:=fun l:List Nat=>l.getLast?.getD 0
  have hv:=Gk lk es ck (xP (seen.map (cR es))) (fun l=>(l.map (cR es)).map aw) (fun l=> .tail 0 (l.map (cR es)).length) (fun l=>tP (l.map (cR es))) (tP (seen.map (cR es))) seen (fun l=>(cR es (l.getLast?.getD 0)).1) (fun l=>(cR es (l.getLast?.getD 0)).2) (fun l=>(om es (l.getLast?.getD 0)).2.1) (rQ 14 0 (fun s:List Nat=>es.length-s.length) (fun _=>rj) (oq lk es ck) (KyInv es) 6 1 seen (fun e vs T=>e= .normal∧vs=rj∧∃x tl seen,mL es x tl∧T=pu lk es ck x tl seen))
  refine bq ae aa ag (hL _) hv ⟨rfl,⟨rfl,h.lost seen,rfl⟩,fun hno=> ?_,fun k v s hnx=> ?_⟩
  · refine ⟨rfl,rfl, ?_⟩
    exact ⟨rfl,rfl,_,_,seen,⟨_,hs.done h hno,rfl,rfl⟩,rfl⟩
  · obtain ⟨hm,hns⟩:=h.nx hnx
    obtain ⟨rfl,rfl,hfind⟩:=h.at hm
    have hlast:∀l:List Nat,(l++ [s]).getLast?=some s:=fun l=>by simp
    have hi2:KyInv es (seen++ [s]):=⟨List.nodup_append.2 ⟨hs.1,by simp,fun a ha b hb e=>by
      rw [List.mem_singleton.1 hb] at e
      exact hns (e▸ha)⟩,fun a ha=>by
      rcases List.mem_append.1 ha with ha | ha
      · exact hs.2 a ha
      · rw [List.mem_singleton.1 ha];exact List.mem_map_of_mem (f:=fun e:Value × TV × Nat=>e.2.2) hm⟩
    simp only [hlast,Option.getD_some]
    refine ⟨.ent _ rfl rfl ?_,trivial, ?_,rfl,rfl, ?_⟩
    · show ky _ (.ptr 5 0)=_
      simp only [ky,List.getElem?_cons_succ,List.getElem?_cons_zero,hlast,Nat.beq_refl,cond_true,hfind]
      rfl
    · have ha:=D6 [.map ⟨true, [.int .u32, .int .i64]⟩ lk es ck, .cells [.map 0], .cells [xP (seen.map (cR es))], .defd, .loop .busy none D3 #[7] eS dH, .iter (.map 0) ck (seen++ [s]) ck, .cells (aw (cR es s)), .cells (aw (cR es s))] (seen.map (cR es)) (cR es s) (by simp only [List.length_map];omega)
      rw [show seen.map (cR es)++ [cR es s]=(seen++ [s]).map (cR es) by simp] at ha
      exact ha
    · refine ⟨seen++ [s],hi2, ?_, .inr ⟨?_,rfl⟩⟩
      · have:=hi2.le
        simp only [List.length_append,List.length_cons,List.length_nil] at this ⊢
        omega
      · have hk:=yC h (seen++ [s]) [.cells (aw (cR es s)), .cells (aw (cR es s))]
        have hx:xP ((seen++ [s]).map (cR es))= .vec 2 (((seen++ [s]).map (cR es)).map aw) (.tail 0 ((seen++ [s]).map (cR es)).length):=by
          rw [List.map_append];exact tv _ _
        unfold oq at hk ⊢
        rw [hx] at hk ⊢
        exact hk
theorem D8 (h:MkOk lk es ck):VCx Try.prog ac 0 ec [.yld 4, .ptr 1 0] (tr lk es ck) fun x T' =>x= .tup []∧∃(y:TV) (tl:bA),mL es y tl∧T' =⟨(tr lk es ck).objs.set 2 (.cells [y]),tl⟩:=by
 refine VCx.keepQ 5 1 (Nat.le_refl _) (Nat.zero_le _) (am ae aa ag (bz fun p hp=> ?_) (Gm lk es ck _) ?_)
 ·obtain rfl:=List.mem_singleton.1 hp
  exact bP fun K hK=>CD h K hK
 ·refine ⟨rfl,⟨rfl,rfl,rfl,trivial,rfl,rfl,rfl⟩,fun x tl seen hk=>⟨rfl,x,tl,hk, ?_⟩⟩
  obtain ⟨l,_,rfl,rfl⟩:=hk
  have e:=h.ren (an 5) (an 1)
  have e2:(tP l).take 1=tP l:=List.take_of_length_le (im _)
  unfold kP at e
  simp only [VT.keep,tr,List.take_succ_cons,List.take_zero,List.map_cons,List.map_nil,e,e2,kP]
  simp only [VO.ren,av,mM]
  rfl
theorem D9:∀ro ys T K,D5 es ro ys T K→VCx Try.prog ac ro ec ys T K:=by
 intro ro ys T K h
 unfold D5 at h
 split at h
 ·obtain ⟨⟨rfl,lk,ck,hm,rfl⟩,hk⟩:=h
  refine (D8 hm).mono ?_
  rintro x T' ⟨rfl,y,tl,hy,rfl⟩
  exact hk y tl hy
 ·exact h.elim
theorem Ea (h:MkOk lk es ck):VCx Try.prog ac 0 tq [.fn (.func ec) [] [.ptr 1 0]] ⟨[.map kP lk es ck, .cells [.map 0]], []⟩ fun x T' =>∃l:List Px,l.Perm (kL es)∧TVle x (.vec 2 (l.map aw) .none)∧T' =⟨[.map kP lk es ck, .cells [.map 0]], []⟩:=by
 refine VCx.keepQ 2 0 (Nat.le_refl _) (Nat.le_refl _) (am ae aa (aQ fun p hp=> ?_) ah (Gl lk es ck _) ?_)
 ·obtain rfl:=List.mem_singleton.1 hp
  exact D9
 ·refine ⟨⟨rfl,lk,ck,h,rfl⟩,fun x tl hk=> ?_⟩
  obtain ⟨l,hl,rfl,rfl⟩:=hk
  refine ⟨l,hl, ?_, ?_⟩
  ·show TVle ((xP l).ren _ _) _
   cases l with
   | nil=>exact TVle.nil 2
   | cons p l=>
    simp only [xP,TV.ren,de]
    exact TVle.vec 2 _ _
  ·have e:=h.ren (an 2) (an 0)
   unfold kP at e
   simp only [VT.keep,List.take_succ_cons,List.take_zero,List.map_cons,List.map_nil,e,kP]
   rfl
end
end
section
open Go.RowKit

abbrev bQ:=Value→Option TV
abbrev bF:=List (Value × TV × Nat)
def Eb (x:Bs):Prop:=∃l:List Int,x=iV l∧l.length≤2000000
abbrev ak:=Px × AtV
def fj (a:AtV):TV:= .agg a.cells
def gu (p:Px) (a:AtV) (g:Bool):Bool:=gt p.1 p.2&&bif g then decide (a=dp) else cL a
def Ec (l:List TV) (ok:Bool):Prop:=∃(p:Px) (a:AtV) (g:Bool),l= [.val (.int .u32 p.1), .val (.int .i64 p.2)]++a.cells++ [.val (.bool g)]∧a.p.length≤9223372036854775807∧ok=gu p a g
def aH (W:List ak) (p:Px):Option AtV:=(W.find? fun r=>decide (r.1=p)).map (·.2)
structure TbOk (W:List ak) (lk:bQ) (es:bF) (ck:Nat):Prop where
 srt:W.Pairwise fun r s=>bY r.1 s.1
 look:∀p,lk (bH p)=(aH W p).map fj
 lren:∀k x,lk k=some x→∀f g,x.ren f g=x
 ents:∀e∈es,∃r∈W,e.1=bH r.1∧e.2.1=fj r.2
 all:∀r∈W,bH r.1∈es.map (·.1)
 kn:(es.map (·.1)).Nodup
 born:∀e∈es,e.2.2<ck
 borns:(es.map (·.2.2)).Nodup
 few:W.length≤1000
 okp:∀r∈W,r.2.p.length≤2000000
def AW (sh:KS) (lk:bQ) (es:bF) (ck:Nat) (a n:Int) (y:AtV) (b:Bool):Prop:=∃W,sh=kP∧TbOk W lk es ck∧y=(aH W (a,n)).getD dp∧b=(aH W (a,n)).isSome
def lF (l:List TV):Prop:=∃a:AtV,l=a.cells∧a.p.length≤2000000
abbrev tA:=78
abbrev ix:=44
abbrev tB:=42
abbrev yD:=43
abbrev vm:=32
abbrev vn:=34
abbrev yE:=13
abbrev yF:=38
abbrev yG:=12
abbrev yH:=16
abbrev yI:=15
def yJ:aJ:=fun _ ys T K=>match ys with
 | [.vec 1 p _]=>Eb p∧K (.vec 1 p .none) T
 | [.val (.slice none 0 0)]=>K (.vec 1 [] .none) T
 | _=>ar 84 default ys
def kM:aJ:=fun _ ys T K=>match ys with
 | [.agg [x0, .vec 1 p _,x2,x3,x4]]=>lF [x0, .vec 1 p .none,x2,x3,x4]∧K (.agg [x0, .vec 1 p .none,x2,x3,x4]) T
 | [.agg [x0, .val (.slice none 0 0),x2,x3,x4]]=>lF [x0, .vec 1 [] .none,x2,x3,x4]∧K (.agg [x0, .vec 1 [] .none,x2,x3,x4]) T
 | _=>ar 84 default ys
def yK (y:AtV) (b:Bool):aJ:=fun ro ys T K=>match ys with
 | [.map m, .agg [.val (.int .u32 a), .val (.int .i64 n)]]=>match T.objs[m]? with
  | some (.map sh lk es ck)=>((@Eq Bool (Nat.ble ro m) true)∧AW sh lk es ck a n y b)∧K (.tup [.agg y.cells, .val (.bool b)]) T
  | _=>ar 85 default ys
 | _=>ar 84 default ys
def Bo (ok:Bool):aJ:=fun _ ys T K=>match ys with
 | [.agg l]=>Ec l ok∧K (.val (.bool ok)) T
 | _=>ar 84 default ys
def dg (a n:Int):TV:= .agg [.val (.int .u32 a), .val (.int .i64 n)]
def dh (lk lk2:bQ) (es es2:bF) (ck ck2:Nat):VT:=⟨[.cells [.map 1, .map 2], .map kP lk es ck, .map kP lk2 es2 ck2], []⟩
def ei (a n:Int) (x:AtV) (g:Bool):List TV:= [.val (.int .u32 a), .val (.int .i64 n)]++x.cells++ [.val (.bool g)]
theorem Ed (Q:TV→VT→Prop):aq Try.prog ac aL aM 300 aE 0 tA [.vec 1 [] .none] ⟨[], []⟩ Q=
 (Q (.val (.slice .none 0 0)) ⟨[], []⟩∧
 Q (.vec 1 [] .full) ⟨[], []⟩):=by kernel_rfl
theorem Ee (q:List TV) (qs:Bs) (n:Nat) (Q:TV→VT→Prop):aq Try.prog ac aL (aB [(7, .vec 1 (q::qs) (.tail 0 n),some fun T=>{T with tails:= [(n,1,false)]})]) 300 aE 0 tA [.vec 1 (q::qs) .none] ⟨[], []⟩ Q=
 (bp Try.prog (fun _=> .none) 0 ⟨[], []⟩ (.call ⟨(.builtin .append), #[(.tmp 5),(.tmp 6)], #[30,30]⟩) [(5,(.vec 1 [] .full)),(6,(.vec 1 ([(q)]++qs) .none))] (.vec 1 ([(q)]++qs) (.tail 0 (n))) ⟨[], [((n),(1,false))]⟩∧
 Q (.vec 1 ([(q)]++qs) (.tail 0 (n))) ⟨[], [((n),(1,false))]⟩):=by kernel_rfl
theorem Gn (x:AtV) (Q:TV→VT→Prop):aq Try.prog ac (aD [(tA,yJ)]) (aB [(999998, .dead,none)]) 300 aE 0 ix [.agg x.cells] ⟨[], []⟩ Q=
 (Eb (iV (AtV.p x))∧
 Q (.agg [(.val (.int .i64 (AtV.o x))),(.vec 1 (iV (AtV.p x)) .none),(.val (.int .u32 (AtV.h x))),(.val (.int .i64 (AtV.m x))),(.val (.bool (AtV.hm x)))]) ⟨[(.cells [(.val (.int .i64 (AtV.o x))),(.vec 1 (iV (AtV.p x)) .none),(.val (.int .u32 (AtV.h x))),(.val (.int .i64 (AtV.m x))),(.val (.bool (AtV.hm x)))]),(.cells [(.val (.int .i64 (AtV.o x))),(.vec 1 (iV (AtV.p x)) .none),(.val (.int .u32 (AtV.h x))),(.val (.int .i64 (AtV.m x))),(.val (.bool (AtV.hm x)))])], []⟩):=by kernel_rfl
theorem Ef (o h m:Int) (hm:Bool) (Q:TV→VT→Prop):aq Try.prog ac (aD [(tA,yJ)]) (aB [(999998, .dead,none)]) 300 aE 0 ix [.agg [.val (.int .i64 o), .val (.slice none 0 0), .val (.int .u32 h), .val (.int .i64 m), .val (.bool hm)]] ⟨[], []⟩ Q=
Q (.agg [(.val (.int .i64 (o))),(.vec 1 [] .none),(.val (.int .u32 (h))),(.val (.int .i64 (m))),(.val (.bool (hm)))]) ⟨[(.cells [(.val (.int .i64 (o))),(.vec 1 [] .none),(.val (.int .u32 (h))),(.val (.int .i64 (m))),(.val (.bool (hm)))]),(.cells [(.val (.int .i64 (o))),(.vec 1 [] .none),(.val (.int .u32 (h))),(.val (.int .i64 (m))),(.val (.bool (hm)))])], []⟩:=by kernel_rfl
theorem Gp (lk:bQ) (es:bF) (ck:Nat) (a n:Int) (x:AtV) (b:Bool) (Q:TV→VT→Prop):aq Try.prog ac (aD [(ix,kM)]) (aB [(999998, .dead,none),(11, .tup [.agg x.cells, .val (.bool b)],some fun T=>T)]) 300 aE 0 tB [.map 0,dg a n] ⟨[.map kP lk es ck], []⟩ Q=
 (bp Try.prog (fun _=> .none) 0 ⟨[(.map ⟨true, [(.int .u32),(.int .i64)]⟩ (lk) (es) (ck)),(.cells [(.val (.int .u32 (a))),(.val (.int .i64 (n)))]),(.cells [(.val (.int .i64 0)),(.val (.slice .none 0 0)),(.val (.int .u32 0)),(.val (.int .i64 0)),(.val (.bool false))])], []⟩ (.lookup 73 (.tmp 9) (.tmp 10) true) [(9,(.map 0)),(10,(.agg [(.val (.int .u32 (a))),(.val (.int .i64 (n)))]))] (.tup [(.agg [(.val (.int .i64 (AtV.o x))),(.vec 1 (iV (AtV.p x)) .none),(.val (.int .u32 (AtV.h x))),(.val (.int .i64 (AtV.m x))),(.val (.bool (AtV.hm x)))]),(.val (.bool (b)))]) ⟨[(.map ⟨true, [(.int .u32),(.int .i64)]⟩ (lk) (es) (ck)),(.cells [(.val (.int .u32 (a))),(.val (.int .i64 (n)))]),(.cells [(.val (.int .i64 0)),(.val (.slice .none 0 0)),(.val (.int .u32 0)),(.val (.int .i64 0)),(.val (.bool false))])], []⟩∧
 (lF [(.val (.int .i64 (AtV.o x))),(.vec 1 (iV (AtV.p x)) .none),(.val (.int .u32 (AtV.h x))),(.val (.int .i64 (AtV.m x))),(.val (.bool (AtV.hm x)))]∧
 Q (.tup [(.agg [(.val (.int .i64 (AtV.o x))),(.vec 1 (iV (AtV.p x)) .none),(.val (.int .u32 (AtV.h x))),(.val (.int .i64 (AtV.m x))),(.val (.bool (AtV.hm x)))]),(.val (.bool (b)))]) ⟨[(.map ⟨true, [(.int .u32),(.int .i64)]⟩ (lk) (es) (ck)),(.cells [(.val (.int .u32 (a))),(.val (.int .i64 (n)))]),(.cells [(.val (.int .i64 (AtV.o x))),(.vec 1 (iV (AtV.p x)) .none),(.val (.int .u32 (AtV.h x))),(.val (.int .i64 (AtV.m x))),(.val (.bool (AtV.hm x)))]),(.cells [(.val (.int .i64 (AtV.o x))),(.vec 1 (iV (AtV.p x)) .none),(.val (.int .u32 (AtV.h x))),(.val (.int .i64 (AtV.m x))),(.val (.bool (AtV.hm x)))])], []⟩)):=by kernel_rfl
theorem Eg (lk:bQ) (es:bF) (ck:Nat) (a n:Int) (Q:TV→VT→Prop):aq Try.prog ac (aD [(ix,kM)]) (aB [(999998, .dead,none),(11, .tup [.agg [.val (.int .i64 0), .val (.slice none 0 0), .val (.int .u32 0), .val (.int .i64 0), .val (.bool false)], .val (.bool false)],some fun T=>T)]) 300 aE 0 tB [.map 0,dg a n] ⟨[.map kP lk es ck], []⟩ Q=
 (bp Try.prog (fun _=> .none) 0 ⟨[(.map ⟨true, [(.int .u32),(.int .i64)]⟩ (lk) (es) (ck)),(.cells [(.val (.int .u32 (a))),(.val (.int .i64 (n)))]),(.cells [(.val (.int .i64 0)),(.val (.slice .none 0 0)),(.val (.int .u32 0)),(.val (.int .i64 0)),(.val (.bool false))])], []⟩ (.lookup 73 (.tmp 9) (.tmp 10) true) [(9,(.map 0)),(10,(.agg [(.val (.int .u32 (a))),(.val (.int .i64 (n)))]))] (.tup [(.agg [(.val (.int .i64 0)),(.val (.slice .none 0 0)),(.val (.int .u32 0)),(.val (.int .i64 0)),(.val (.bool false))]),(.val (.bool false))]) ⟨[(.map ⟨true, [(.int .u32),(.int .i64)]⟩ (lk) (es) (ck)),(.cells [(.val (.int .u32 (a))),(.val (.int .i64 (n)))]),(.cells [(.val (.int .i64 0)),(.val (.slice .none 0 0)),(.val (.int .u32 0)),(.val (.int .i64 0)),(.val (.bool false))])], []⟩∧
 (lF [(.val (.int .i64 0)),(.vec 1 [] .none),(.val (.int .u32 0)),(.val (.int .i64 0)),(.val (.bool false))]∧
 Q (.tup [(.agg [(.val (.int .i64 0)),(.vec 1 [] .none),(.val (.int .u32 0)),(.val (.int .i64 0)),(.val (.bool false))]),(.val (.bool false))]) ⟨[(.map ⟨true, [(.int .u32),(.int .i64)]⟩ (lk) (es) (ck)),(.cells [(.val (.int .u32 (a))),(.val (.int .i64 (n)))]),(.cells [(.val (.int .i64 0)),(.vec 1 [] .none),(.val (.int .u32 0)),(.val (.int .i64 0)),(.val (.bool false))]),(.cells [(.val (.int .i64 0)),(.val (.slice .none 0 0)),(.val (.int .u32 0)),(.val (.int .i64 0)),(.val (.bool false))])], []⟩)):=by kernel_rfl
theorem Gq (a n:Int) (x:AtV) (g ok ok2:Bool) (Q:TV→VT→Prop):aq Try.prog ac (aD [(re,tc),(ra,ta ok),(rc,Bl ok2)]) (aB [(999998, .dead,none)]) 300 aE 0 yD [.agg (ei a n x g)] ⟨[], []⟩ Q=
 (bif g
 then (bif gt a n
 then (wO [(.val (.int .i64 (AtV.o x))),(.vec 1 (iV (AtV.p x)) .none),(.val (.int .u32 (AtV.h x))),(.val (.int .i64 (AtV.m x))),(.val (.bool (AtV.hm x)))] [(.val (.int .i64 0)),(.val (.slice .none 0 0)),(.val (.int .u32 0)),(.val (.int .i64 0)),(.val (.bool false))] (ok2)∧
 Q (.val (.bool (ok2))) ⟨[(.cells [(.val (.int .u32 (a))),(.val (.int .i64 (n))),(.val (.int .i64 (AtV.o x))),(.vec 1 (iV (AtV.p x)) .none),(.val (.int .u32 (AtV.h x))),(.val (.int .i64 (AtV.m x))),(.val (.bool (AtV.hm x))),(.val (.bool (g)))])], []⟩)
 else Q (.val (.bool false)) ⟨[(.cells [(.val (.int .u32 (a))),(.val (.int .i64 (n))),(.val (.int .i64 (AtV.o x))),(.vec 1 (iV (AtV.p x)) .none),(.val (.int .u32 (AtV.h x))),(.val (.int .i64 (AtV.m x))),(.val (.bool (AtV.hm x))),(.val (.bool (g)))])], []⟩)
 else (bif gt a n
 then (oe [(.val (.int .i64 (AtV.o x))),(.vec 1 (iV (AtV.p x)) .none),(.val (.int .u32 (AtV.h x))),(.val (.int .i64 (AtV.m x))),(.val (.bool (AtV.hm x)))] (ok)∧
 Q (.val (.bool (ok))) ⟨[(.cells [(.val (.int .u32 (a))),(.val (.int .i64 (n))),(.val (.int .i64 (AtV.o x))),(.vec 1 (iV (AtV.p x)) .none),(.val (.int .u32 (AtV.h x))),(.val (.int .i64 (AtV.m x))),(.val (.bool (AtV.hm x))),(.val (.bool (g)))])], []⟩)
 else Q (.val (.bool false)) ⟨[(.cells [(.val (.int .u32 (a))),(.val (.int .i64 (n))),(.val (.int .i64 (AtV.o x))),(.vec 1 (iV (AtV.p x)) .none),(.val (.int .u32 (AtV.h x))),(.val (.int .i64 (AtV.m x))),(.val (.bool (AtV.hm x))),(.val (.bool (g)))])], []⟩)):=by kernel_rfl
theorem Gs (lk lk2:bQ) (es es2:bF) (ck ck2:Nat) (a n:Int) (x y:AtV) (ok:Bool) (Q:TV→VT→Prop):aq Try.prog ac (aD [(re,tc),(ra,ta ok),(ix,kM)]) (aB [(999998, .dead,none),(28, .tup [.agg y.cells, .val (.bool true)],none)]) 300 aE 0 vm [.ptr 0 0,dg a n, .agg x.cells] (dh lk lk2 es es2 ck ck2) Q=
 (bif !gt a n
 then Q (.val (.int .i64 2)) ⟨[(.cells [(.map 1),(.map 2)]),(.map ⟨true, [(.int .u32),(.int .i64)]⟩ (lk) (es) (ck)),(.map ⟨true, [(.int .u32),(.int .i64)]⟩ (lk2) (es2) (ck2)),(.cells [(.val (.int .u32 (a))),(.val (.int .i64 (n)))]),(.cells [(.val (.int .i64 (AtV.o x))),(.vec 1 (iV (AtV.p x)) .none),(.val (.int .u32 (AtV.h x))),(.val (.int .i64 (AtV.m x))),(.val (.bool (AtV.hm x)))])], []⟩
 else (oe [(.val (.int .i64 (AtV.o x))),(.vec 1 (iV (AtV.p x)) .none),(.val (.int .u32 (AtV.h x))),(.val (.int .i64 (AtV.m x))),(.val (.bool (AtV.hm x)))] (ok)∧
 (bif !ok
 then Q (.val (.int .i64 2)) ⟨[(.cells [(.map 1),(.map 2)]),(.map ⟨true, [(.int .u32),(.int .i64)]⟩ (lk) (es) (ck)),(.map ⟨true, [(.int .u32),(.int .i64)]⟩ (lk2) (es2) (ck2)),(.cells [(.val (.int .u32 (a))),(.val (.int .i64 (n)))]),(.cells [(.val (.int .i64 (AtV.o x))),(.vec 1 (iV (AtV.p x)) .none),(.val (.int .u32 (AtV.h x))),(.val (.int .i64 (AtV.m x))),(.val (.bool (AtV.hm x)))])], []⟩
 else (iF Try.prog ⟨[(.cells [(.map 1),(.map 2)]),(.map ⟨true, [(.int .u32),(.int .i64)]⟩ (lk) (es) (ck)),(.map ⟨true, [(.int .u32),(.int .i64)]⟩ (lk2) (es2) (ck2)),(.cells [(.val (.int .u32 (a))),(.val (.int .i64 (n)))]),(.cells [(.val (.int .i64 (AtV.o x))),(.vec 1 (iV (AtV.p x)) .none),(.val (.int .u32 (AtV.h x))),(.val (.int .i64 (AtV.m x))),(.val (.bool (AtV.hm x)))])], []⟩ 73 (.map 1) (.agg [(.val (.int .u32 (a))),(.val (.int .i64 (n)))]) true (.tup [(.agg [(.val (.int .i64 (AtV.o y))),(.vec 1 (iV (AtV.p y)) .none),(.val (.int .u32 (AtV.h y))),(.val (.int .i64 (AtV.m y))),(.val (.bool (AtV.hm y)))]),(.val (.bool true))])∧
 (lF [(.val (.int .i64 (AtV.o x))),(.vec 1 (iV (AtV.p x)) .none),(.val (.int .u32 (AtV.h x))),(.val (.int .i64 (AtV.m x))),(.val (.bool (AtV.hm x)))]∧
 (((@Eq (Option TV) (.some (.agg [(.val (.int .i64 (AtV.o x))),(.vec 1 (iV (AtV.p x)) .none),(.val (.int .u32 (AtV.h x))),(.val (.int .i64 (AtV.m x))),(.val (.bool (AtV.hm x)))])) (.some (.agg [(.val (.int .i64 (AtV.o x))),(.vec 1 (iV (AtV.p x)) .none),(.val (.int .u32 (AtV.h x))),(.val (.int .i64 (AtV.m x))),(.val (.bool (AtV.hm x)))])))∧
 ((@Eq (Option TV) (.some (.agg [(.val (.int .u32 (a))),(.val (.int .i64 (n)))])) (.some (.agg [(.val (.int .u32 (a))),(.val (.int .i64 (n)))])))∧
 ((@Eq (Option TV) (.some (.map 1)) (.some (.map 1)))∧
 True)))∧
 Q (.val (.int .i64 0)) ⟨[(.cells [(.map 1),(.map 2)]),(.map ⟨true, [(.int .u32),(.int .i64)]⟩ (fun kk=>(bif aj ((fun vs=>Value.agg (List.toArray vs)) ((fun x=>Value.int IntKind.u32 a::x) ((fun x=>Value.int IntKind.i64 n::x) []))) kk then (.some (.agg [(.val (.int .i64 (AtV.o x))),(.vec 1 (iV (AtV.p x)) .none),(.val (.int .u32 (AtV.h x))),(.val (.int .i64 (AtV.m x))),(.val (.bool (AtV.hm x)))])) else (lk kk))) (bW (.agg #[(.int .u32 (a)),(.int .i64 (n))]) (.agg [(.val (.int .i64 (AtV.o x))),(.vec 1 (iV (AtV.p x)) .none),(.val (.int .u32 (AtV.h x))),(.val (.int .i64 (AtV.m x))),(.val (.bool (AtV.hm x)))]) (ck) (es)) (match lk ((fun vs=>Value.agg (List.toArray vs)) ((fun x=>Value.int IntKind.u32 a::x) ((fun x=>Value.int IntKind.i64 n::x) []))) with
| some val=>ck
| none=>ck+(1:Nat))),(.map ⟨true, [(.int .u32),(.int .i64)]⟩ (lk2) (es2) (ck2)),(.cells [(.val (.int .u32 (a))),(.val (.int .i64 (n)))]),(.cells [(.val (.int .i64 (AtV.o x))),(.vec 1 (iV (AtV.p x)) .none),(.val (.int .u32 (AtV.h x))),(.val (.int .i64 (AtV.m x))),(.val (.bool (AtV.hm x)))]),(.cells [(.val (.int .i64 (AtV.o y))),(.vec 1 (iV (AtV.p y)) .none),(.val (.int .u32 (AtV.h y))),(.val (.int .i64 (AtV.m y))),(.val (.bool (AtV.hm y)))])], []⟩)))))):=by kernel_rfl
theorem Eh (lk lk2:bQ) (es es2:bF) (ck ck2:Nat) (a n:Int) (x:AtV) (ok:Bool) (Q:TV→VT→Prop):aq Try.prog ac (aD [(re,tc),(ra,ta ok),(ix,kM)]) (aB [(999998, .dead,none),(28, .tup [.agg [.val (.int .i64 0), .val (.slice none 0 0), .val (.int .u32 0), .val (.int .i64 0), .val (.bool false)], .val (.bool false)],none)]) 300 aE 0 vm [.ptr 0 0,dg a n, .agg x.cells] (dh lk lk2 es es2 ck ck2) Q=
 (bif !gt a n
 then Q (.val (.int .i64 2)) ⟨[(.cells [(.map 1),(.map 2)]),(.map ⟨true, [(.int .u32),(.int .i64)]⟩ (lk) (es) (ck)),(.map ⟨true, [(.int .u32),(.int .i64)]⟩ (lk2) (es2) (ck2)),(.cells [(.val (.int .u32 (a))),(.val (.int .i64 (n)))]),(.cells [(.val (.int .i64 (AtV.o x))),(.vec 1 (iV (AtV.p x)) .none),(.val (.int .u32 (AtV.h x))),(.val (.int .i64 (AtV.m x))),(.val (.bool (AtV.hm x)))])], []⟩
 else (oe [(.val (.int .i64 (AtV.o x))),(.vec 1 (iV (AtV.p x)) .none),(.val (.int .u32 (AtV.h x))),(.val (.int .i64 (AtV.m x))),(.val (.bool (AtV.hm x)))] (ok)∧
 (bif !ok
 then Q (.val (.int .i64 2)) ⟨[(.cells [(.map 1),(.map 2)]),(.map ⟨true, [(.int .u32),(.int .i64)]⟩ (lk) (es) (ck)),(.map ⟨true, [(.int .u32),(.int .i64)]⟩ (lk2) (es2) (ck2)),(.cells [(.val (.int .u32 (a))),(.val (.int .i64 (n)))]),(.cells [(.val (.int .i64 (AtV.o x))),(.vec 1 (iV (AtV.p x)) .none),(.val (.int .u32 (AtV.h x))),(.val (.int .i64 (AtV.m x))),(.val (.bool (AtV.hm x)))])], []⟩
 else (iF Try.prog ⟨[(.cells [(.map 1),(.map 2)]),(.map ⟨true, [(.int .u32),(.int .i64)]⟩ (lk) (es) (ck)),(.map ⟨true, [(.int .u32),(.int .i64)]⟩ (lk2) (es2) (ck2)),(.cells [(.val (.int .u32 (a))),(.val (.int .i64 (n)))]),(.cells [(.val (.int .i64 (AtV.o x))),(.vec 1 (iV (AtV.p x)) .none),(.val (.int .u32 (AtV.h x))),(.val (.int .i64 (AtV.m x))),(.val (.bool (AtV.hm x)))])], []⟩ 73 (.map 1) (.agg [(.val (.int .u32 (a))),(.val (.int .i64 (n)))]) true (.tup [(.agg [(.val (.int .i64 0)),(.val (.slice .none 0 0)),(.val (.int .u32 0)),(.val (.int .i64 0)),(.val (.bool false))]),(.val (.bool false))])∧
 (bif decide ((↑(List.length es):Int)≥(1024:Int))
 then Q (.val (.int .i64 6)) ⟨[(.cells [(.map 1),(.map 2)]),(.map ⟨true, [(.int .u32),(.int .i64)]⟩ (lk) (es) (ck)),(.map ⟨true, [(.int .u32),(.int .i64)]⟩ (lk2) (es2) (ck2)),(.cells [(.val (.int .u32 (a))),(.val (.int .i64 (n)))]),(.cells [(.val (.int .i64 (AtV.o x))),(.vec 1 (iV (AtV.p x)) .none),(.val (.int .u32 (AtV.h x))),(.val (.int .i64 (AtV.m x))),(.val (.bool (AtV.hm x)))]),(.cells [(.val (.int .i64 0)),(.val (.slice .none 0 0)),(.val (.int .u32 0)),(.val (.int .i64 0)),(.val (.bool false))])], []⟩
 else (lF [(.val (.int .i64 (AtV.o x))),(.vec 1 (iV (AtV.p x)) .none),(.val (.int .u32 (AtV.h x))),(.val (.int .i64 (AtV.m x))),(.val (.bool (AtV.hm x)))]∧
 (((@Eq (Option TV) (.some (.agg [(.val (.int .i64 (AtV.o x))),(.vec 1 (iV (AtV.p x)) .none),(.val (.int .u32 (AtV.h x))),(.val (.int .i64 (AtV.m x))),(.val (.bool (AtV.hm x)))])) (.some (.agg [(.val (.int .i64 (AtV.o x))),(.vec 1 (iV (AtV.p x)) .none),(.val (.int .u32 (AtV.h x))),(.val (.int .i64 (AtV.m x))),(.val (.bool (AtV.hm x)))])))∧
 ((@Eq (Option TV) (.some (.agg [(.val (.int .u32 (a))),(.val (.int .i64 (n)))])) (.some (.agg [(.val (.int .u32 (a))),(.val (.int .i64 (n)))])))∧
 ((@Eq (Option TV) (.some (.map 1)) (.some (.map 1)))∧
 True)))∧
 Q (.val (.int .i64 0)) ⟨[(.cells [(.map 1),(.map 2)]),(.map ⟨true, [(.int .u32),(.int .i64)]⟩ (fun kk=>(bif aj ((fun vs=>Value.agg (List.toArray vs)) ((fun x=>Value.int IntKind.u32 a::x) ((fun x=>Value.int IntKind.i64 n::x) []))) kk then (.some (.agg [(.val (.int .i64 (AtV.o x))),(.vec 1 (iV (AtV.p x)) .none),(.val (.int .u32 (AtV.h x))),(.val (.int .i64 (AtV.m x))),(.val (.bool (AtV.hm x)))])) else (lk kk))) (bW (.agg #[(.int .u32 (a)),(.int .i64 (n))]) (.agg [(.val (.int .i64 (AtV.o x))),(.vec 1 (iV (AtV.p x)) .none),(.val (.int .u32 (AtV.h x))),(.val (.int .i64 (AtV.m x))),(.val (.bool (AtV.hm x)))]) (ck) (es)) (match lk ((fun vs=>Value.agg (List.toArray vs)) ((fun x=>Value.int IntKind.u32 a::x) ((fun x=>Value.int IntKind.i64 n::x) []))) with
| some val=>ck
| none=>ck+(1:Nat))),(.map ⟨true, [(.int .u32),(.int .i64)]⟩ (lk2) (es2) (ck2)),(.cells [(.val (.int .u32 (a))),(.val (.int .i64 (n)))]),(.cells [(.val (.int .i64 (AtV.o x))),(.vec 1 (iV (AtV.p x)) .none),(.val (.int .u32 (AtV.h x))),(.val (.int .i64 (AtV.m x))),(.val (.bool (AtV.hm x)))]),(.cells [(.val (.int .i64 0)),(.val (.slice .none 0 0)),(.val (.int .u32 0)),(.val (.int .i64 0)),(.val (.bool false))])], []⟩))))))):=by kernel_rfl
theorem Gt (lk lk2:bQ) (es es2:bF) (ck ck2:Nat) (a n:Int) (y:AtV) (Q:TV→VT→Prop):aq Try.prog ac aL (aB [(999998, .dead,none),(16, .tup [.agg y.cells, .val (.bool true)],none)]) 300 aE 0 vn [.ptr 0 0,dg a n] (dh lk lk2 es es2 ck ck2) Q=
 (iF Try.prog ⟨[(.cells [(.map 1),(.map 2)]),(.map ⟨true, [(.int .u32),(.int .i64)]⟩ (lk) (es) (ck)),(.map ⟨true, [(.int .u32),(.int .i64)]⟩ (lk2) (es2) (ck2)),(.cells [(.val (.int .u32 (a))),(.val (.int .i64 (n)))])], []⟩ 73 (.map 1) (.agg [(.val (.int .u32 (a))),(.val (.int .i64 (n)))]) true (.tup [(.agg [(.val (.int .i64 (AtV.o y))),(.vec 1 (iV (AtV.p y)) .none),(.val (.int .u32 (AtV.h y))),(.val (.int .i64 (AtV.m y))),(.val (.bool (AtV.hm y)))]),(.val (.bool true))])∧
 Q (.val (.bool true)) ⟨[(.cells [(.map 1),(.map 2)]),(.map ⟨true, [(.int .u32),(.int .i64)]⟩ (fun kk=>(bif aj ((fun vs=>Value.agg (List.toArray vs)) ((fun x=>Value.int IntKind.u32 a::x) ((fun x=>Value.int IntKind.i64 n::x) []))) kk then .none else (lk kk))) (dc ((fun vs=>Value.agg (List.toArray vs)) ((fun x=>Value.int IntKind.u32 a::x) ((fun x=>Value.int IntKind.i64 n::x) []))) es) (ck)),(.map ⟨true, [(.int .u32),(.int .i64)]⟩ (lk2) (es2) (ck2)),(.cells [(.val (.int .u32 (a))),(.val (.int .i64 (n)))]),(.cells [(.val (.int .i64 (AtV.o y))),(.vec 1 (iV (AtV.p y)) .none),(.val (.int .u32 (AtV.h y))),(.val (.int .i64 (AtV.m y))),(.val (.bool (AtV.hm y)))])], []⟩):=by kernel_rfl
theorem Ei (lk lk2:bQ) (es es2:bF) (ck ck2:Nat) (a n:Int) (Q:TV→VT→Prop):aq Try.prog ac aL (aB [(999998, .dead,none),(16, .tup [.agg [.val (.int .i64 0), .val (.slice none 0 0), .val (.int .u32 0), .val (.int .i64 0), .val (.bool false)], .val (.bool false)],none)]) 300 aE 0 vn [.ptr 0 0,dg a n] (dh lk lk2 es es2 ck ck2) Q=
 (iF Try.prog ⟨[(.cells [(.map 1),(.map 2)]),(.map ⟨true, [(.int .u32),(.int .i64)]⟩ (lk) (es) (ck)),(.map ⟨true, [(.int .u32),(.int .i64)]⟩ (lk2) (es2) (ck2)),(.cells [(.val (.int .u32 (a))),(.val (.int .i64 (n)))])], []⟩ 73 (.map 1) (.agg [(.val (.int .u32 (a))),(.val (.int .i64 (n)))]) true (.tup [(.agg [(.val (.int .i64 0)),(.val (.slice .none 0 0)),(.val (.int .u32 0)),(.val (.int .i64 0)),(.val (.bool false))]),(.val (.bool false))])∧
 Q (.val (.bool false)) ⟨[(.cells [(.map 1),(.map 2)]),(.map ⟨true, [(.int .u32),(.int .i64)]⟩ (fun kk=>(bif aj ((fun vs=>Value.agg (List.toArray vs)) ((fun x=>Value.int IntKind.u32 a::x) ((fun x=>Value.int IntKind.i64 n::x) []))) kk then .none else (lk kk))) (dc ((fun vs=>Value.agg (List.toArray vs)) ((fun x=>Value.int IntKind.u32 a::x) ((fun x=>Value.int IntKind.i64 n::x) []))) es) (ck)),(.map ⟨true, [(.int .u32),(.int .i64)]⟩ (lk2) (es2) (ck2)),(.cells [(.val (.int .u32 (a))),(.val (.int .i64 (n)))]),(.cells [(.val (.int .i64 0)),(.val (.slice .none 0 0)),(.val (.int .u32 0)),(.val (.int .i64 0)),(.val (.bool false))])], []⟩):=by kernel_rfl
theorem Gu (lk lk2:bQ) (es es2:bF) (ck ck2:Nat) (a n:Int) (x:AtV) (g ok:Bool) (Q:TV→VT→Prop):aq Try.prog ac (aD [(yD,Bo ok),(ix,kM)]) (aB [(999998, .dead,none)]) 300 aE 0 yE [.ptr 0 0, .agg (ei a n x g)] (dh lk lk2 es es2 ck ck2) Q=
 (Ec [(.val (.int .u32 (a))),(.val (.int .i64 (n))),(.val (.int .i64 (AtV.o x))),(.vec 1 (iV (AtV.p x)) .none),(.val (.int .u32 (AtV.h x))),(.val (.int .i64 (AtV.m x))),(.val (.bool (AtV.hm x))),(.val (.bool (g)))] (ok)∧
 (bif !ok
 then Q (.val (.int .i64 2)) ⟨[(.cells [(.map 1),(.map 2)]),(.map ⟨true, [(.int .u32),(.int .i64)]⟩ (lk) (es) (ck)),(.map ⟨true, [(.int .u32),(.int .i64)]⟩ (lk2) (es2) (ck2)),(.cells [(.val (.int .u32 (a))),(.val (.int .i64 (n))),(.val (.int .i64 (AtV.o x))),(.vec 1 (iV (AtV.p x)) .none),(.val (.int .u32 (AtV.h x))),(.val (.int .i64 (AtV.m x))),(.val (.bool (AtV.hm x))),(.val (.bool (g)))])], []⟩
 else (bif g
 then Q (.val (.int .i64 0)) ⟨[(.cells [(.map 1),(.map 2)]),(.map ⟨true, [(.int .u32),(.int .i64)]⟩ (lk) (es) (ck)),(.map ⟨true, [(.int .u32),(.int .i64)]⟩ (fun kk=>(bif aj ((fun vs=>Value.agg (List.toArray vs)) ((fun x=>Value.int IntKind.u32 a::x) ((fun x=>Value.int IntKind.i64 n::x) []))) kk then .none else (lk2 kk))) (dc ((fun vs=>Value.agg (List.toArray vs)) ((fun x=>Value.int IntKind.u32 a::x) ((fun x=>Value.int IntKind.i64 n::x) []))) es2) (ck2)),(.cells [(.val (.int .u32 (a))),(.val (.int .i64 (n))),(.val (.int .i64 (AtV.o x))),(.vec 1 (iV (AtV.p x)) .none),(.val (.int .u32 (AtV.h x))),(.val (.int .i64 (AtV.m x))),(.val (.bool (AtV.hm x))),(.val (.bool (g)))])], []⟩
 else (lF [(.val (.int .i64 (AtV.o x))),(.vec 1 (iV (AtV.p x)) .none),(.val (.int .u32 (AtV.h x))),(.val (.int .i64 (AtV.m x))),(.val (.bool (AtV.hm x)))]∧
 (((@Eq (Option TV) (.some (.agg [(.val (.int .i64 (AtV.o x))),(.vec 1 (iV (AtV.p x)) .none),(.val (.int .u32 (AtV.h x))),(.val (.int .i64 (AtV.m x))),(.val (.bool (AtV.hm x)))])) (.some (.agg [(.val (.int .i64 (AtV.o x))),(.vec 1 (iV (AtV.p x)) .none),(.val (.int .u32 (AtV.h x))),(.val (.int .i64 (AtV.m x))),(.val (.bool (AtV.hm x)))])))∧
 ((@Eq (Option TV) (.some (.agg [(.val (.int .u32 (a))),(.val (.int .i64 (n)))])) (.some (.agg [(.val (.int .u32 (a))),(.val (.int .i64 (n)))])))∧
 ((@Eq (Option TV) (.some (.map 2)) (.some (.map 2)))∧
 True)))∧
 Q (.val (.int .i64 0)) ⟨[(.cells [(.map 1),(.map 2)]),(.map ⟨true, [(.int .u32),(.int .i64)]⟩ (lk) (es) (ck)),(.map ⟨true, [(.int .u32),(.int .i64)]⟩ (fun kk=>(bif aj ((fun vs=>Value.agg (List.toArray vs)) ((fun x=>Value.int IntKind.u32 a::x) ((fun x=>Value.int IntKind.i64 n::x) []))) kk then (.some (.agg [(.val (.int .i64 (AtV.o x))),(.vec 1 (iV (AtV.p x)) .none),(.val (.int .u32 (AtV.h x))),(.val (.int .i64 (AtV.m x))),(.val (.bool (AtV.hm x)))])) else (lk2 kk))) (bW (.agg #[(.int .u32 (a)),(.int .i64 (n))]) (.agg [(.val (.int .i64 (AtV.o x))),(.vec 1 (iV (AtV.p x)) .none),(.val (.int .u32 (AtV.h x))),(.val (.int .i64 (AtV.m x))),(.val (.bool (AtV.hm x)))]) (ck2) (es2)) (match lk2 ((fun vs=>Value.agg (List.toArray vs)) ((fun x=>Value.int IntKind.u32 a::x) ((fun x=>Value.int IntKind.i64 n::x) []))) with
| some val=>ck2
| none=>ck2+(1:Nat))),(.cells [(.val (.int .u32 (a))),(.val (.int .i64 (n))),(.val (.int .i64 (AtV.o x))),(.vec 1 (iV (AtV.p x)) .none),(.val (.int .u32 (AtV.h x))),(.val (.int .i64 (AtV.m x))),(.val (.bool (AtV.hm x))),(.val (.bool (g)))])], []⟩))))):=by kernel_rfl
theorem Gv (lk lk2:bQ) (es es2:bF) (ck ck2:Nat) (Q:TV→VT→Prop):aq Try.prog ac aL (aB [(999998, .dead,none)]) 300 aE 0 yF [.ptr 0 0] (dh lk lk2 es es2 ck ck2) Q=
Q (.tup []) ⟨[(.cells [(.map 1),(.map 2)]),(.map ⟨true, [(.int .u32),(.int .i64)]⟩ (lk) (es) (ck)),(.map ⟨true, [(.int .u32),(.int .i64)]⟩ (fun _=> .none) [] (ck2))], []⟩:=by kernel_rfl
theorem Gw (lk lk2:bQ) (es es2:bF) (ck ck2:Nat) (a n:Int) (y:AtV) (b:Bool) (Q:TV→VT→Prop):aq Try.prog ac (aD [(tB,yK y b)]) (aB [(999998, .dead,none)]) 300 aE 0 yG [.ptr 0 0,dg a n] (dh lk lk2 es es2 ck ck2) Q=
 (((@Eq (Bool) true true)∧
 AW ⟨true, [(.int .u32),(.int .i64)]⟩ (lk) (es) (ck) (a) (n) (y) (b))∧
 Q (.tup [(.agg [(.val (.int .i64 (AtV.o y))),(.vec 1 (iV (AtV.p y)) .none),(.val (.int .u32 (AtV.h y))),(.val (.int .i64 (AtV.m y))),(.val (.bool (AtV.hm y)))]),(.val (.bool (b)))]) ⟨[(.cells [(.map 1),(.map 2)]),(.map ⟨true, [(.int .u32),(.int .i64)]⟩ (lk) (es) (ck)),(.map ⟨true, [(.int .u32),(.int .i64)]⟩ (lk2) (es2) (ck2)),(.cells [(.val (.int .u32 (a))),(.val (.int .i64 (n)))]),(.cells [(.val (.int .i64 (AtV.o y))),(.vec 1 (iV (AtV.p y)) .none),(.val (.int .u32 (AtV.h y))),(.val (.int .i64 (AtV.m y))),(.val (.bool (AtV.hm y)))])], []⟩):=by kernel_rfl
theorem Gx (lk lk2:bQ) (es es2:bF) (ck ck2:Nat) (a n:Int) (y:AtV) (b:Bool) (Q:TV→VT→Prop):aq Try.prog ac (aD [(tB,yK y b)]) (aB [(999998, .dead,none)]) 300 aE 0 yH [.ptr 0 0,dg a n] (dh lk lk2 es es2 ck ck2) Q=
 (((@Eq (Bool) true true)∧
 AW ⟨true, [(.int .u32),(.int .i64)]⟩ (lk2) (es2) (ck2) (a) (n) (y) (b))∧
 Q (.tup [(.agg [(.val (.int .i64 (AtV.o y))),(.vec 1 (iV (AtV.p y)) .none),(.val (.int .u32 (AtV.h y))),(.val (.int .i64 (AtV.m y))),(.val (.bool (AtV.hm y)))]),(.val (.bool (b)))]) ⟨[(.cells [(.map 1),(.map 2)]),(.map ⟨true, [(.int .u32),(.int .i64)]⟩ (lk) (es) (ck)),(.map ⟨true, [(.int .u32),(.int .i64)]⟩ (lk2) (es2) (ck2)),(.cells [(.val (.int .u32 (a))),(.val (.int .i64 (n)))]),(.cells [(.val (.int .i64 (AtV.o y))),(.vec 1 (iV (AtV.p y)) .none),(.val (.int .u32 (AtV.h y))),(.val (.int .i64 (AtV.m y))),(.val (.bool (AtV.hm y)))])], []⟩):=by kernel_rfl
theorem Gy (lk lk2:bQ) (es es2:bF) (ck ck2:Nat) (Q:TV→VT→Prop):aq Try.prog ac aL (aB [(999998, .dead,none)]) 300 aE 0 yI [.ptr 0 0] (dh lk lk2 es es2 ck ck2) Q=
Q (.tup [(.val (.int .i64 ((↑(List.length es):Int)))),(.val (.int .i64 ((↑(List.length es2):Int))))]) ⟨[(.cells [(.map 1),(.map 2)]),(.map ⟨true, [(.int .u32),(.int .i64)]⟩ (lk) (es) (ck)),(.map ⟨true, [(.int .u32),(.int .i64)]⟩ (lk2) (es2) (ck2))], []⟩:=by kernel_rfl
end
section
open Go.RowKit

def aC (W:List ak) (p:Px):List ak:=W.filter fun r=> !decide (r.1=p)
def eO (x:ak):List ak→List ak
 | []=> [x]
 | r::l=>if bY x.1 r.1 then x::r::l else r::eO x l
def cc (W:List ak) (x:ak):List ak:=eO x (aC W x.1)
theorem cM {W:List ak} {p:Px} {r:ak}:r∈aC W p ↔ r∈W∧r.1≠p:=by
 unfold aC;simp
theorem ot {x r:ak}:∀{l:List ak},r∈eO x l ↔ r=x∨r∈l
 | []=>by simp [eO]
 | a::l=>by
  unfold eO
  split
  ·simp
  ·simp only [List.mem_cons,ot (l:=l)]
   constructor
   ·rintro (h | h | h)
    ·exact .inr (.inl h)
    ·exact .inl h
    ·exact .inr (.inr h)
   ·rintro (h | h | h)
    ·exact .inr (.inl h)
    ·exact .inl h
    ·exact .inr (.inr h)
theorem ej {W:List ak} {x r:ak}:r∈cc W x ↔ r=x∨(r∈W∧r.1≠x.1):=by
 unfold cc;rw [ot,cM]
def gO (W:List ak):Prop:=W.Pairwise fun r s=>bY r.1 s.1
theorem kb {W:List ak} (h:gO W) (p:Px):gO (aC W p):=List.Pairwise.filter _ h
theorem vp {x:ak}:∀{l:List ak},gO l→(∀r∈l,r.1≠x.1)→gO (eO x l)
 | [],_,_=>List.pairwise_singleton _ _
 | a::l,h,hn=>by
  unfold eO
  have h1:=List.pairwise_cons.1 h
  split
  ·rename_i hlt
   refine List.pairwise_cons.2 ⟨fun r hr=> ?_,h⟩
   rcases List.mem_cons.1 hr with rfl | hr
   ·exact hlt
   ·exact fE hlt (h1.1 r hr)
  ·rename_i hlt
   refine List.pairwise_cons.2 ⟨fun r hr=> ?_,vp h1.2 fun r hr=>hn r (List.mem_cons_of_mem _ hr)⟩
   rcases ot.1 hr with rfl | hr
   ·exact Classical.byContradiction fun hc=>hn a List.mem_cons_self (lD hc hlt)
   ·exact h1.1 r hr
theorem tD {W:List ak} (h:gO W) (x:ak):gO (cc W x):=vp (kb h _) fun r hr=>(cM.1 hr).2
theorem CE {W:List ak} (h:gO W) {r s:ak} (hr:r∈W) (hs:s∈W) (he:r.1=s.1):r=s:=by
  induction W with
  | nil=>cases hr
  | cons a W ih=>
    have h1:=List.pairwise_cons.1 h
    rcases List.mem_cons.1 hr with e1 | hr1
    · rcases List.mem_cons.1 hs with e2 | hs1
      · rw [e1,e2]
      · have:=h1.1 s hs1
        rw [←e1,he] at this
        exact absurd this (cG _)
    · rcases List.mem_cons.1 hs with e2 | hs1
      · have:=h1.1 r hr1
        rw [←e2,he] at this
        exact absurd this (cG _)
      · exact ih h1.2 hr1 hs1
theorem cE {W:List ak} {p:Px} {a:AtV} (h:aH W p=some a):(p,a)∈W:=by
 unfold aH at h
 cases hf:W.find? fun r=>decide (r.1=p) with
 | none=>rw [hf] at h;cases h
 | some r=>
  rw [hf] at h
  have h1:=List.find?_some hf
  have h2:=List.mem_of_find?_eq_some hf
  obtain ⟨q,b⟩:=r
  simp only [decide_eq_true_eq] at h1
  subst h1
  injection h with h
  simp only at h
  subst h
  exact h2
theorem lG {W:List ak} {p:Px} (h:aH W p=none):∀r∈W,r.1≠p:=by
 unfold aH at h
 simp only [Option.map_eq_none_iff,List.find?_eq_none,decide_eq_true_eq] at h
 exact h
theorem fS {W:List ak} (hs:gO W) {p:Px} {a:AtV} (h:(p,a)∈W):aH W p=some a:=by
 cases hf:aH W p with
 | none=>exact absurd rfl (lG hf _ h)
 | some b=>
  have:=CE hs h (cE hf) rfl
  injection this with _ h2
  rw [h2]
theorem wR {W:List ak} (hs:gO W) (p q:Px) (a:AtV):aH (cc W (p,a)) q=if p=q then some a else aH W q:=by
 have h2:=tD hs (p,a)
 split
 ·rename_i h;subst h
  exact fS h2 (ej.2 (.inl rfl))
 ·rename_i hne
  cases hf:aH W q with
  | some b=>exact fS h2 (ej.2 (.inr ⟨cE hf,fun h=>hne h.symm⟩))
  | none=>
   cases hg:aH (cc W (p,a)) q with
   | none=>rfl
   | some b=>
    rcases ej.1 (cE hg) with h | h
    ·injection h with h _;exact absurd h.symm hne
    ·exact absurd rfl (lG hf _ h.1)
theorem rH {W:List ak} (hs:gO W) (p q:Px):aH (aC W p) q=if p=q then none else aH W q:=by
 split
 ·rename_i h;subst h
  cases hf:aH (aC W p) p with
  | none=>rfl
  | some b=>exact absurd rfl (cM.1 (cE hf)).2
 ·rename_i hne
  cases hf:aH W q with
  | some b=>exact fS (kb hs p) (cM.2 ⟨cE hf,fun h=>hne h.symm⟩)
  | none=>
   cases hg:aH (aC W p) q with
   | none=>rfl
   | some b=>exact absurd rfl (lG hf _ (cM.1 (cE hg)).1)
theorem ou (x:ak):∀l:List ak,(eO x l).length=l.length+1
 | []=>rfl
 | a::l=>by unfold eO;split<;>simp [ou x l]
theorem eM (W:List ak) (p:Px):(aC W p).length≤W.length:=List.length_filter_le _ _
theorem ov (W:List ak) (x:ak):(cc W x).length≤W.length+1:=by
 unfold cc;rw [ou];have:=eM W x.1;omega
theorem ow {p q:Px} (h:bH p=bH q):p=q:=by
 have:=congrArg qi h
 simpa [tu] using this
theorem hO (p:Px):kP.fits (bH p)=true:=rfl
theorem wS (p q:Px):aj (bH p) (bH q)=decide (p=q):=by
 have h:=bE (hO p) (hO q)
 cases hk:aj (bH p) (bH q) with
 | true=>exact (decide_eq_true (ow (h.1 hk))).symm
 | false=>
  refine (decide_eq_false fun e=> ?_).symm
  rw [h.2 (by rw [e])] at hk;cases hk
theorem rl {k:Value} {v:TV} {ck:Nat}:∀{es:bF},(bW k v ck es).map (·.2.2)=es.map (·.2.2)∨(bW k v ck es).map (·.2.2)=es.map (·.2.2)++ [ck]
  | []=> .inr rfl
  | e::es=>by
    unfold bW
    cases aj k e.1
    · rcases rl (k:=k) (v:=v) (ck:=ck) (es:=es) with h | h
      · exact .inl (by simp only [cond_false,List.map_cons,h])
      · exact .inr (by simp only [cond_false,List.map_cons,h,List.cons_append])
    · exact .inl rfl
theorem pv {k:Value} {v:TV} {ck:Nat} {sh:KS} (hk:sh.fits k=true):∀{es:bF},(∀e∈es,sh.fits e.1=true)→k∈es.map (·.1)→(bW k v ck es).map (·.2.2)=es.map (·.2.2)
  | [],_,h=>by cases h
  | e::es,hf,h=>by
    have hka:=bE hk (hf e List.mem_cons_self)
    unfold bW
    cases hb:aj k e.1
    · rcases List.mem_cons.1 h with h | h
      · rw [hka.2 h] at hb;cases hb
      · simp only [cond_false,List.map_cons,pv hk (fun e he=>hf e (List.mem_cons_of_mem _ he)) h]
    · rfl
theorem tE {k:Value} {v:TV} {ck:Nat} {sh:KS} (hk:sh.fits k=true):∀{es:bF},(∀e∈es,sh.fits e.1=true)→(es.map (·.1)).Nodup→∀e∈bW k v ck es,(e.1=k∧e.2.1=v)∨(e∈es∧e.1≠k)
  | [],_,_,e,he=>by
    obtain rfl:=List.mem_singleton.1 he
    exact .inl ⟨rfl,rfl⟩
  | a::es,hf,hn,e,he=>by
    unfold bW at he
    have hka:=bE hk (hf a List.mem_cons_self)
    cases hb:aj k a.1
    · rw [hb,cond_false] at he
      rcases List.mem_cons.1 he with rfl | he
      · refine .inr ⟨List.mem_cons_self,fun h=> ?_⟩
        rw [hka.2 h.symm] at hb;cases hb
      · rcases tE hk (fun e he=>hf e (List.mem_cons_of_mem _ he)) (List.nodup_cons.1 hn).2 e he with h | h
        · exact .inl h
        · exact .inr ⟨List.mem_cons_of_mem _ h.1,h.2⟩
    · rw [hb,cond_true] at he
      have e1:=hka.1 hb
      rcases List.mem_cons.1 he with rfl | he
      · exact .inl ⟨rfl,rfl⟩
      · refine .inr ⟨List.mem_cons_of_mem _ he,fun h=>(List.nodup_cons.1 hn).1 ?_⟩
        show a.1∈_
        rw [←e1,←h]
        exact List.mem_map_of_mem (f:=fun e:Value × TV × Nat=>e.1) he
theorem ox {k:Value} {sh:KS} (hk:sh.fits k=true):∀{es:bF},(∀e∈es,sh.fits e.1=true)→(es.map (·.1)).Nodup→∀e,e∈dc k es ↔ e∈es∧e.1≠k
  | [],_,_,e=>by simp [dc]
  | a::es,hf,hn,e=>by
    unfold dc
    have hka:=bE hk (hf a List.mem_cons_self)
    have hn2:=List.nodup_cons.1 hn
    cases hb:aj k a.1
    · have hne:a.1≠k:=fun h=>by rw [hka.2 h.symm] at hb;cases hb
      simp only [cond_false,List.mem_cons,ox hk (fun e he=>hf e (List.mem_cons_of_mem _ he)) hn2.2]
      constructor
      · rintro (rfl | h)
        · exact ⟨.inl rfl,hne⟩
        · exact ⟨.inr h.1,h.2⟩
      · rintro ⟨rfl | h,h2⟩
        · exact .inl rfl
        · exact .inr ⟨h,h2⟩
    · have e1:=hka.1 hb
      simp only [cond_true,List.mem_cons]
      constructor
      · intro h
        refine ⟨.inr h,fun h2=>hn2.1 ?_⟩
        show a.1∈_
        rw [←e1,←h2]
        exact List.mem_map_of_mem (f:=fun e:Value × TV × Nat=>e.1) h
      · rintro ⟨rfl | h,h2⟩
        · exact absurd e1.symm h2
        · exact h
section
variable {W:List ak} {lk:bQ} {es:bF} {ck:Nat}
theorem gQ (a:AtV) (f g:Nat→Option Nat):(fj a).ren f g=fj a:=by
 simp only [fj,AtV.cells,TV.ren,av,cD,Tok.ren]
theorem TbOk.fits (h:TbOk W lk es ck):∀e∈es,kP.fits e.1=true:=fun e he=>by
 obtain ⟨r,_,h1,_⟩:=h.ents e he
 rw [h1];exact hO _
theorem TbOk.keysP (h:TbOk W lk es ck):(es.map (·.1)).Perm (W.map fun r=>bH r.1):=by
 refine (List.perm_ext_iff_of_nodup h.kn ?_).2 fun k=>⟨fun hk=> ?_,fun hk=> ?_⟩
 ·refine List.Pairwise.map _ (fun a b hab he=> ?_) h.srt
  rw [ow he] at hab
  exact cG _ hab
 ·obtain ⟨e,he,rfl⟩:=List.mem_map.1 hk
  obtain ⟨r,hr,h1,_⟩:=h.ents e he
  rw [h1]
  exact List.mem_map_of_mem (f:=fun r:ak=>bH r.1) hr
 ·obtain ⟨r,hr,rfl⟩:=List.mem_map.1 hk
  exact h.all r hr
theorem TbOk.len (h:TbOk W lk es ck):es.length=W.length:=by
 have:=h.keysP.length_eq
 simpa using this
theorem TbOk.esP (h:TbOk W lk es ck):(kL es).Perm (W.map (·.1)):=by
 have:=h.keysP.map qi
 rw [List.map_map,List.map_map] at this
 exact this
theorem TbOk.ren (h:TbOk W lk es ck) (f g:Nat→Option Nat):VO.ren f g (.map kP lk es ck)= .map kP lk es ck:=by
 have h1:(fun k=>(lk k).map (TV.ren f g))=lk:=by
  funext k
  cases hk:lk k with
  | none=>rfl
  | some x=>simp only [Option.map_some,h.lren k x hk f g]
 have h2:es.map (fun e=>(e.1,e.2.1.ren f g,e.2.2))=es:=by
  conv=>rhs;rw [←List.map_id es]
  refine List.map_congr_left fun e he=> ?_
  obtain ⟨r,_,_,h2⟩:=h.ents e he
  rw [h2,gQ,←h2];rfl
 simp only [VO.ren,h1,h2]
theorem TbOk.mk_ok (h:TbOk W lk es ck):MkOk lk es ck where
 keys:=fun e he=>by
  obtain ⟨r,_,h1,_⟩:=h.ents e he
  exact ⟨r.1,h1⟩
 born:=h.born
 borns:=h.borns
 ren:=h.ren
 few:=by have:=h.len;have:=h.few;omega
theorem TbOk.empty (ck:Nat):TbOk [] (fun _=>none) [] ck where
 srt:=List.Pairwise.nil
 look:=fun p=>rfl
 lren:=fun k x h=>by cases h
 ents:=fun e h=>by cases h
 all:=fun r h=>by cases h
 kn:=List.nodup_nil
 born:=fun e h=>by cases h
 borns:=List.nodup_nil
 few:=Nat.zero_le _
 okp:=fun r h=>by cases h
theorem TbOk.born' (h:TbOk W lk es ck) (p:Px) (v:TV) {ck' :Nat} (hc:ck' =match lk (bH p) with
  | some _=>ck
  | none=>ck+1):((bW (bH p) v ck es).map (·.2.2)=es.map (·.2.2)∧ck≤ck')∨((bW (bH p) v ck es).map (·.2.2)=es.map (·.2.2)++ [ck]∧ck' =ck+1):=by
 cases hl:lk (bH p) with
 | none=>
  rw [hl] at hc
  subst hc
  rcases rl (k:=bH p) (v:=v) (ck:=ck) (es:=es) with h1 | h1
  ·exact .inl ⟨h1,Nat.le_succ _⟩
  ·exact .inr ⟨h1,rfl⟩
 | some x=>
  rw [hl] at hc
  subst hc
  refine .inl ⟨pv (hO p) h.fits ?_,Nat.le_refl _⟩
  rw [h.look] at hl
  cases hf:aH W p with
  | none=>rw [hf] at hl;cases hl
  | some a=>exact h.all _ (cE hf)
theorem TbOk.put (h:TbOk W lk es ck) (p:Px) (a:AtV) (hl:W.length<1000) (ha:a.p.length≤2000000) {ck' :Nat} (hc:ck' =match lk (bH p) with
  | some _=>ck
  | none=>ck+1):TbOk (cc W (p,a)) (fun k=>bif aj (bH p) k then some (fj a) else lk k) (bW (bH p) (fj a) ck es) ck' where
 srt:=tD h.srt _
 look:=fun q=>by
  rw [wS,wR h.srt,h.look]
  by_cases e:p=q
  ·simp [e]
  ·simp [e]
 lren:=fun k x hx f g=>by
  cases hk:aj (bH p) k
  ·rw [hk] at hx;exact h.lren k x hx f g
  ·rw [hk] at hx;injection hx with hx;rw [←hx];exact gQ _ _ _
 ents:=fun e he=>by
  rcases tE (hO p) h.fits h.kn e he with ⟨h1,h2⟩ | ⟨h1,h2⟩
  ·exact ⟨(p,a),ej.2 (.inl rfl),h1,h2⟩
  ·obtain ⟨r,hr,k1,k2⟩:=h.ents e h1
   refine ⟨r,ej.2 (.inr ⟨hr,fun e1=>h2 ?_⟩),k1,k2⟩
   rw [k1,e1]
 all:=fun r hr=>by
  rw [jH (hO p) _ _ h.fits]
  rcases ej.1 hr with rfl | ⟨hr,_⟩
  ·split
   ·rename_i hm
    refine Classical.byContradiction fun hn=> ?_
    rw [(ma (hO p) h.fits).2 hn] at hm;cases hm
   ·exact List.mem_append_right _ List.mem_cons_self
  ·have:=h.all r hr
   split
   ·exact this
   ·exact List.mem_append_left _ this
 kn:=iD (hO p) _ _ h.fits h.kn
 born:=fun e he=>by
  have h1:e.2.2∈(bW (bH p) (fj a) ck es).map (·.2.2):=List.mem_map_of_mem (f:=fun e:Value × TV × Nat=>e.2.2) he
  have h2:∀b∈es.map (·.2.2),b<ck:=fun b hb=>by
   obtain ⟨e,he,rfl⟩:=List.mem_map.1 hb
   exact h.born e he
  rcases h.born' p (fj a) hc with ⟨hm,hle⟩ | ⟨hm,rfl⟩
  ·rw [hm] at h1;exact Nat.lt_of_lt_of_le (h2 _ h1) hle
  ·rw [hm] at h1
   rcases List.mem_append.1 h1 with h1 | h1
   ·exact Nat.lt_succ_of_lt (h2 _ h1)
   ·rw [List.mem_singleton.1 h1];exact Nat.lt_succ_self _
 borns:=by
  rcases h.born' p (fj a) hc with ⟨hm,_⟩ | ⟨hm,_⟩
  ·rw [hm];exact h.borns
  ·rw [hm]
   refine List.nodup_append.2 ⟨h.borns,by simp,fun b hb c hc e=> ?_⟩
   rw [List.mem_singleton.1 hc] at e
   obtain ⟨x,hx,rfl⟩:=List.mem_map.1 hb
   have:=h.born x hx
   omega
 few:=by have:=ov W (p,a);omega
 okp:=fun r hr=>by
  rcases ej.1 hr with rfl | ⟨hr,_⟩
  ·exact ha
  ·exact h.okp r hr
theorem TbOk.del (h:TbOk W lk es ck) (p:Px):TbOk (aC W p) (fun k=>bif aj (bH p) k then none else lk k) (dc (bH p) es) ck where
 srt:=kb h.srt _
 look:=fun q=>by
  rw [wS,rH h.srt,h.look]
  by_cases e:p=q
  ·simp [e]
  ·simp [e]
 lren:=fun k x hx f g=>by
  cases hk:aj (bH p) k
  ·rw [hk] at hx;exact h.lren k x hx f g
  ·rw [hk] at hx;cases hx
 ents:=fun e he=>by
  obtain ⟨h1,h2⟩:=(ox (hO p) h.fits h.kn e).1 he
  obtain ⟨r,hr,k1,k2⟩:=h.ents e h1
  refine ⟨r,cM.2 ⟨hr,fun e1=>h2 ?_⟩,k1,k2⟩
  rw [k1,e1]
 all:=fun r hr=>by
  obtain ⟨h1,h2⟩:=cM.1 hr
  obtain ⟨e,he,k1⟩:=List.mem_map.1 (h.all r h1)
  rw [←k1]
  refine List.mem_map_of_mem (f:=fun e:Value × TV × Nat=>e.1) ((ox (hO p) h.fits h.kn e).2 ⟨he,fun h3=>h2 ?_⟩)
  rw [k1] at h3
  exact ow h3
 kn:=h.kn.sublist ((gF es).map _)
 born:=fun e he=>h.born e ((gF es).subset he)
 borns:=h.borns.sublist ((gF es).map _)
 few:=Nat.le_trans (eM _ _) h.few
 okp:=fun r hr=>h.okp r (cM.1 hr).1
end
end
section
open Go.RowKit

theorem AX:∃(inf:TypeInfo) (z:Value),Try.prog.info? 3=some inf∧inf.size=1∧inf.bytes+1≤9∧inf.zero=some z∧z.cells.size=1:=
 ⟨(Try.prog.info? 3).getD default,((Try.prog.info? 3).getD default).zero.getD default,by kernel_rfl,by kernel_rfl,Nat.le_of_ble_eq_true (by kernel_rfl),by kernel_rfl,by kernel_rfl⟩
theorem yL {l:List Int} (hl:l.length≤2000000):VCx Try.prog ac 0 tA [.vec 1 (iV l) .none] ⟨[], []⟩ fun x T' =>x= .vec 1 (iV l) .none∧T' =⟨[], []⟩:=by
  refine VCx.toLe (VCx.keepQ 0 0 (Nat.le_refl _) (Nat.le_refl _) ?_)
  cases l with
  | nil=>exact am ae aa ag ah (Ed _) ⟨⟨.nil 1,rfl⟩,⟨.vec 1 [] _,rfl⟩⟩
  | cons z l=>
    refine am ae aa ag ah (Ee (iT z) (iV l) (z::l).length _) ⟨?_, ?_,rfl⟩
    · obtain ⟨inf,zz,i1,i2,i3,i4,i5⟩:=AX
      have h1:=ef (inf:=inf) (P:=Try.prog) (G:=ac) (ro:=0) (T:=⟨[], []⟩) (T1:=⟨[], [(0,1,false)]⟩) (t:=30) (tx:=30) (s:= .tmp 5) (x:= .tmp 6) (l:= [(5, .vec 1 [] .full),(6, .vec 1 (iV (z::l)) .none)]) (es:= []) (es2:=iV (z::l)) (k:=0) (n:=0) (bn:=false) Try.underlying30 i1 i4 (by rw [i5,i2]) (by rw [i2];omega) (by kernel_rfl)
        (by rw [i2];simp [aO,bS,dz]) (by rw [i2];rfl)
        (by have h1:=i3
            have h2:=Nat.mul_le_mul (show ([]:Bs).length+(iV (z::l)).length≤2000000 by simpa [iV] using hl) h1
            omega)
      rw [i2] at h1
      simp only [List.nil_append,Nat.zero_add] at h1
      rw [show (iV (z::l)).length=(z::l).length by simp [iV]] at h1
      exact h1
    · simp only [TV.ren]
      rw [show [iT z]++iV l=iV (z::l) from rfl,cD]
      exact TVle.vec 1 _ _
theorem Ej:∀ro ys T K,yJ ro ys T K→VCx Try.prog ac ro tA ys T K:=by
 intro ro ys T K hw
 unfold yJ at hw
 split at hw
 ·obtain ⟨⟨l,rfl,hl⟩,hk⟩:=hw
  exact VCx.loosePure ay (yL hl) (by simp [co]) (by simp only [av,TV.ren,cD,Tok.ren]) (fun f g=>by simp only [TV.ren,cD,Tok.ren]) hk
 ·refine VCx.liftPure ay (xs:= [.val (.slice none 0 0)]) (VCx.argsLe (xs:= [.vec 1 (iV []) .none]) ?_ (yL (Nat.zero_le _))) rfl (fun _ _=>rfl) hw
  exact ⟨.nil 1,trivial⟩
 ·exact hw.elim
theorem Ek:aT Try.prog ac (aD [(tA,yJ)]):=aQ fun p hp=>by obtain rfl:=List.mem_singleton.1 hp;exact Ej
theorem El {a:AtV} (ha:a.p.length≤2000000):VCx Try.prog ac 0 ix [.agg a.cells] ⟨[], []⟩ fun x T' =>x= .agg a.cells∧T' =⟨[], []⟩:=
 VCx.keepQ 0 0 (Nat.le_refl _) (Nat.le_refl _) (am ae aa Ek ah (Gn a _) ⟨⟨a.p,rfl,ha⟩,gQ a _ _,rfl⟩)
def Em (a:AtV):List TV:= [.val (.int .i64 a.o), .val (.slice none 0 0), .val (.int .u32 a.h), .val (.int .i64 a.m), .val (.bool a.hm)]
theorem CF {a:AtV} (ha:a.p= []):VCx Try.prog ac 0 ix [.agg (Em a)] ⟨[], []⟩ fun x T' =>x= .agg a.cells∧T' =⟨[], []⟩:=by
 refine VCx.keepQ 0 0 (Nat.le_refl _) (Nat.le_refl _) (am ae aa Ek ah (Ef a.o a.h a.m a.hm _) ⟨?_,rfl⟩)
 simp only [AtV.cells,ha];rfl
theorem En {l:List Int} (h: []=iV l):l= []:=by
 cases l with
 | nil=>rfl
 | cons z l=>cases h
theorem pw:∀ro ys T K,kM ro ys T K→VCx Try.prog ac ro ix ys T K:=by
 intro ro ys T K hw
 unfold kM at hw
 split at hw
 ·obtain ⟨⟨a,ha,hl⟩,hk⟩:=hw
  simp only [AtV.cells,List.cons.injEq,TV.vec.injEq,true_and,and_true] at ha
  obtain ⟨rfl,rfl,rfl,rfl,rfl⟩:=ha
  refine VCx.liftPure ay (VCx.argsLe (xs:= [.agg a.cells]) ?_ (El hl)) (by simp only [av,TV.ren,cD];rfl) (gQ a) hk
  exact ⟨.agg ⟨.refl _, .vec 1 _ _, .refl _, .refl _, .refl _,trivial⟩,trivial⟩
 ·obtain ⟨⟨a,ha,hl⟩,hk⟩:=hw
  simp only [AtV.cells,List.cons.injEq,TV.vec.injEq,true_and,and_true] at ha
  obtain ⟨rfl,hp,rfl,rfl,rfl⟩:=ha
  have hp:=En hp
  refine VCx.liftPure ay (xs:= [.agg (Em a)]) (CF hp) rfl (gQ a) ?_
  simp only [AtV.cells,hp];exact hk
 ·exact hw.elim
end
section
open Go.RowKit
set_option maxRecDepth 100000

def Bp:Value:= .agg #[.int .i64 0, .slice none 0 0, .int .u32 0, .int .i64 0, .bool false]
theorem dx {T:VT} {lk:bQ} {es:bF} {ck id:Nat} {p:Px} (hid:T.objs[id]?=some (.map kP lk es ck)) (ok:Bool):cP Try.prog T 73 (.map id) (dg p.1 p.2) ok=some (dY ok (lk (bH p)) Bp):=by
 have h:∀o:Option VO,o=some (.map kP lk es ck)→(match Try.prog.underlying 73,b8 (dg p.1 p.2) with
   | some (.map kt et),some kv=>match cp Try.prog kt,Try.prog.info? et with
    | some sh,some i=>match i.zero with
     | some zz=>bif sh.fits kv then (match o with
       | some (.map sh' look _ _)=>bif fN sh sh' then some (dY ok (look kv) zz) else none
       | _=>none) else none
     | none=>none
    | _,_=>none
   | _,_=>none)=some (dY ok (lk (bH p)) Bp):=by
  rintro _ rfl
  kernel_rfl
 exact h _ hid
theorem px {G:az} {T:VT} {t:TypeId} {m k:Operand} {ok:Bool} {l:List (Nat × TV)} {y:TV} (h:cP Try.prog T t (aO G l m) (aO G l k) ok=some y):bp Try.prog G 0 T (.lookup t m k ok) l y T:=by
 refine .mk ?_
 have h1:aR Try.prog (.lookup t m k ok) (aO G l)=none:=by simp [aR,cX]
 have h2:aK Try.prog T (.lookup t m k ok) (aO G l)=some y:=by simp only [aK,h]
 simp only [dZ,h1,h2]
theorem io {W:List ak} {lk:bQ} {es:bF} {ck:Nat} (h:TbOk W lk es ck) {p:Px} {a:AtV} (ha:aH W p=some a):dY true (lk (bH p)) Bp= .tup [.agg a.cells, .val (.bool true)]:=by
 rw [h.look,ha];rfl
theorem ip {W:List ak} {lk:bQ} {es:bF} {ck:Nat} (h:TbOk W lk es ck) {p:Px} (ha:aH W p=none):dY true (lk (bH p)) Bp= .tup [.agg [.val (.int .i64 0), .val (.slice none 0 0), .val (.int .u32 0), .val (.int .i64 0), .val (.bool false)], .val (.bool false)]:=by
 rw [h.look,ha];rfl
def bR (W:List ak) (p:Px):AtV:=(aH W p).getD dp
def bo (W:List ak) (p:Px):Bool:=(aH W p).isSome
theorem wT:aT Try.prog ac (aD [(ix,kM)]):=aQ fun p hp=>by obtain rfl:=List.mem_singleton.1 hp;exact pw
theorem AtV.ren' (a:AtV) (f g:Nat→Option Nat):av f g a.cells=a.cells:=by
 have:=gQ a f g
 simp only [fj,TV.ren] at this
 injection this
theorem vq {W:List ak} {lk:bQ} {es:bF} {ck:Nat} (h:TbOk W lk es ck) (l:List VO):VT.keep ⟨.map kP lk es ck::l, []⟩ 1 0=⟨[.map kP lk es ck], []⟩:=by
 have e:=h.ren (an 1) (an 0)
 simp only [VT.keep,List.take_succ_cons,List.take_zero,List.map_cons,List.map_nil,e]
theorem Eo {W:List ak} {lk:bQ} {es:bF} {ck:Nat} (h:TbOk W lk es ck) (p:Px):VCx Try.prog ac 0 tB [.map 0,dg p.1 p.2] ⟨[.map kP lk es ck], []⟩ fun x T' =>x= .tup [.agg (bR W p).cells, .val (.bool (bo W p))]∧T' =⟨[.map kP lk es ck], []⟩:=by
 refine VCx.keepQ 1 0 (Nat.le_refl _) (Nat.le_refl _) ?_
 cases hf:aH W p with
 | some a=>
  rw [show bR W p=a by rw [bR,hf];rfl,show bo W p=true by rw [bo,hf];rfl]
  refine am ae aa wT ah (Gp lk es ck p.1 p.2 a true _) ⟨px ((dx (T:=⟨[.map kP lk es ck,_,_], []⟩) (id:=0) rfl true).trans (by rw [io h hf];rfl)),⟨a,rfl,h.okp _ (cE hf)⟩, ?_,vq h _⟩
  simp only [TV.ren,av,cD,Tok.ren,AtV.cells]
 | none=>
  rw [show bR W p=dp by rw [bR,hf];rfl,show bo W p=false by rw [bo,hf];rfl]
  refine am ae aa wT ah (Eg lk es ck p.1 p.2 _) ⟨px ((dx (T:=⟨[.map kP lk es ck,_,_], []⟩) (id:=0) rfl true).trans (by rw [ip h hf])),⟨dp,rfl,Nat.zero_le _⟩, ?_,vq h _⟩
  rfl
theorem Ep (y:AtV) (b:Bool):∀ro ys T K,yK y b ro ys T K→VCx Try.prog ac ro tB ys T K:=by
  intro ro ys T K hw
  unfold yK at hw
  split at hw
  · rename_i m a n
    split at hw
    · rename_i sh lk es ck hm
      obtain ⟨⟨hro,W,rfl,h,rfl,rfl⟩,hk⟩:=hw
      refine VCx.at1 (k:=m) ay (Nat.le_of_ble_eq_true hro) hm rfl (h.ren _ _) (ys1:= [.map 0,dg a n]) (by simp [av,TV.ren,bc,dg,List.idxOf?,List.findIdx?,List.findIdx?.go]) (Q:=fun x o' l' =>x= .tup [.agg (bR W (a,n)).cells, .val (.bool (bo W (a,n)))]∧o' = .map kP lk es ck∧l' = [])
        ((Eo h (a,n)).mono fun x T' ⟨h1,h2⟩=>⟨_,_,h2,h1,rfl,rfl⟩) ?_
      rintro x o' l' ⟨rfl,rfl,rfl⟩
      rw [h.ren,List.map_nil,List.append_nil]
      have e:T.objs.set m (.map kP lk es ck)=T.objs:=List.ext_getElem? fun j=>by
        rw [List.getElem?_set]
        split
        · rename_i e;subst e
          obtain ⟨hlt,_⟩:=List.getElem?_eq_some_iff.1 hm
          rw [if_pos hlt,hm]
        · rfl
      rw [e]
      simp only [TV.ren,av,AtV.ren']
      exact hk
    · exact hw.elim
  · exact hw.elim
end
section
open Go.RowKit
set_option maxRecDepth 100000

theorem lH {a:AtV} (h:cL a=true):a.p.length≤2000000:=by
 have:=(DI h).p.1
 omega
theorem Er (p:Px) {a:AtV} (g:Bool) (ha:a.p.length≤9223372036854775807):VCx Try.prog ac 0 yD [.agg (ei p.1 p.2 a g)] ⟨[], []⟩ fun x T' =>x= .val (.bool (gu p a g))∧T' =⟨[], []⟩:=by
 have hS:aT Try.prog ac (aD [(re,tc),(ra,ta (cL a)),(rc,Bl (decide (a=dp)))]):=aQ fun q hq=>by
  rcases List.mem_cons.1 hq with rfl | hq;exact yx
  rcases List.mem_cons.1 hq with rfl | hq;exact yv _
  obtain rfl:=List.mem_singleton.1 hq;exact DM _
 refine VCx.keepQ 0 0 (Nat.le_refl _) (Nat.le_refl _) (am ae aa hS ah (Gq p.1 p.2 a g (cL a) (decide (a=dp)) _) ?_)
 unfold gu
 refine aA (fun hg=> ?_) (fun hg=> ?_)
 ·subst hg
  refine aA (fun hp=> ?_) (fun hp=> ?_)
  ·rw [hp];exact ⟨⟨a,rfl,ha,rfl,rfl⟩,rfl,rfl⟩
  ·rw [hp];exact ⟨rfl,rfl⟩
 ·subst hg
  refine aA (fun hp=> ?_) (fun hp=> ?_)
  ·rw [hp];exact ⟨⟨a,rfl,ha,rfl⟩,rfl,rfl⟩
  ·rw [hp];exact ⟨rfl,rfl⟩
theorem Es (ok:Bool):∀ro ys T K,Bo ok ro ys T K→VCx Try.prog ac ro yD ys T K:=by
 intro ro ys T K hw
 unfold Bo at hw
 split at hw
 ·obtain ⟨⟨p,a,g,rfl,ha,rfl⟩,hk⟩:=hw
  refine VCx.liftPure ay (Er p g ha) ?_ (fun _ _=>rfl) hk
  simp only [av,TV.ren,AtV.cells,cD,Tok.ren,ei,List.cons_append,List.nil_append]
 ·exact hw.elim
def RibT (W H:List ak) (T:VT):Prop:=∃lk lk2 es es2 ck ck2,T=dh lk lk2 es es2 ck ck2∧TbOk W lk es ck∧TbOk H lk2 es2 ck2
section
variable {W H:List ak} {lk lk2:bQ} {es es2:bF} {ck ck2:Nat}
theorem nn (h:TbOk W lk es ck) (h2:TbOk H lk2 es2 ck2) (l:List VO):VT.keep ⟨.cells [.map 1, .map 2]:: .map kP lk es ck:: .map kP lk2 es2 ck2::l, []⟩ 3 0=dh lk lk2 es es2 ck ck2:=by
 have e1:=h.ren (an 3) (an 0)
 have e2:=h2.ren (an 3) (an 0)
 simp only [VT.keep,List.take_succ_cons,List.take_zero,List.map_cons,List.map_nil,e1,e2,dh]
 rfl
theorem eF (h:TbOk W lk es ck) (h2:TbOk H lk2 es2 ck2) (l:List VO):RibT W H (VT.keep ⟨.cells [.map 1, .map 2]:: .map kP lk es ck:: .map kP lk2 es2 ck2::l, []⟩ 3 0):=⟨_,_,_,_,_,_,nn h h2 l,h,h2⟩
def cN (p:Px) (a:AtV):Bool:=gt p.1 p.2&&cL a
def fF (p:Px) (a:AtV):Int:=bif cN p a then 0 else 2
def dU (W:List ak) (p:Px) (a:AtV):List ak:=bif cN p a then cc W (p,a) else W
theorem Et {T:VT} (h:RibT W H T) (p:Px) {a:AtV} (ha:a.p.length≤9223372036854775807) (hl:W.length<1000):VCx Try.prog ac 0 vm [.ptr 0 0,dg p.1 p.2, .agg a.cells] T fun x T' =>x= .val (.int .i64 (fF p a))∧RibT (dU W p a) H T' :=by
 obtain ⟨lk,lk2,es,es2,ck,ck2,rfl,h1,h2⟩:=h
 have hS:aT Try.prog ac (aD [(re,tc),(ra,ta (cL a)),(ix,kM)]):=aQ fun q hq=>by
  rcases List.mem_cons.1 hq with rfl | hq;exact yx
  rcases List.mem_cons.1 hq with rfl | hq;exact yv _
  obtain rfl:=List.mem_singleton.1 hq;exact pw
 refine VCx.keepQ 3 0 (Nat.le_refl _) (Nat.le_refl _) ?_
 have hlen:=h1.len
 have hput:=fun hg:cL a=true=>h1.put p a hl (lH hg) rfl
 have hge:∀n:Nat,n=W.length→decide ((n:Int)≥1024)=false:=fun n hn=>decide_eq_false (by omega)
 cases hf:aH W p with
 | some y=>
  refine am ae aa hS ah (Gs lk lk2 es es2 ck ck2 p.1 p.2 a y (cL a) _) ?_
  cases hp:gt p.1 p.2 with
  | false=>exact ⟨by simp only [fF,cN,hp];rfl,by simp only [dU,cN,hp];exact eF h1 h2 _⟩
  | true=>
   refine bh rfl ⟨⟨a,rfl,ha,rfl⟩, ?_⟩
   cases hg:cL a with
   | false=>exact ⟨by simp only [fF,cN,hp,hg];rfl,by simp only [dU,cN,hp,hg];exact eF h1 h2 _⟩
   | true=>
    refine bh rfl ⟨⟨(dx (T:=⟨[_, .map kP lk es ck,_,_,_], []⟩) (id:=1) (p:=p) rfl true).trans (by rw [io h1 hf];rfl)⟩,⟨a,rfl,lH hg⟩,⟨rfl,rfl,rfl,trivial⟩, ?_, ?_⟩
    ·simp only [fF,cN,hp,hg];rfl
    ·simp only [dU,cN,hp,hg];exact eF (hput hg) h2 _
 | none=>
  refine am ae aa hS ah (Eh lk lk2 es es2 ck ck2 p.1 p.2 a (cL a) _) ?_
  cases hp:gt p.1 p.2 with
  | false=>exact ⟨by simp only [fF,cN,hp];rfl,by simp only [dU,cN,hp];exact eF h1 h2 _⟩
  | true=>
   refine bh rfl ⟨⟨a,rfl,ha,rfl⟩, ?_⟩
   cases hg:cL a with
   | false=>exact ⟨by simp only [fF,cN,hp,hg];rfl,by simp only [dU,cN,hp,hg];exact eF h1 h2 _⟩
   | true=>
    refine bh rfl ⟨⟨(dx (T:=⟨[_, .map kP lk es ck,_,_,_], []⟩) (id:=1) (p:=p) rfl true).trans (by rw [ip h1 hf])⟩,bh (hge _ hlen) ⟨⟨a,rfl,lH hg⟩,⟨rfl,rfl,rfl,trivial⟩, ?_, ?_⟩⟩
    ·simp only [fF,cN,hp,hg];rfl
    ·simp only [dU,cN,hp,hg];exact eF (hput hg) h2 _
theorem Eu {T:VT} (h:RibT W H T) (p:Px):VCx Try.prog ac 0 vn [.ptr 0 0,dg p.1 p.2] T fun x T' =>x= .val (.bool (bo W p))∧RibT (aC W p) H T' :=by
 obtain ⟨lk,lk2,es,es2,ck,ck2,rfl,h1,h2⟩:=h
 refine VCx.keepQ 3 0 (Nat.le_refl _) (Nat.le_refl _) ?_
 have hdel:=h1.del p
 cases hf:aH W p with
 | some y=>
  rw [show bo W p=true by rw [bo,hf];rfl]
  exact am ae aa ag ah (Gt lk lk2 es es2 ck ck2 p.1 p.2 y _) ⟨⟨(dx (T:=⟨[_, .map kP lk es ck,_,_], []⟩) (id:=1) (p:=p) rfl true).trans (by rw [io h1 hf];rfl)⟩,rfl,eF hdel h2 _⟩
 | none=>
  rw [show bo W p=false by rw [bo,hf];rfl]
  exact am ae aa ag ah (Ei lk lk2 es es2 ck ck2 p.1 p.2 _) ⟨⟨(dx (T:=⟨[_, .map kP lk es ck,_,_], []⟩) (id:=1) (p:=p) rfl true).trans (by rw [ip h1 hf])⟩,rfl,eF hdel h2 _⟩
def iI (p:Px) (a:AtV) (g:Bool):Int:=bif gu p a g then 0 else 2
def eU (H:List ak) (p:Px) (a:AtV) (g:Bool):List ak:=bif gu p a g then (bif g then aC H p else cc H (p,a)) else H
theorem Ev {T:VT} (h:RibT W H T) (p:Px) {a:AtV} (g:Bool) (ha:a.p.length≤9223372036854775807) (hl:H.length<1000):VCx Try.prog ac 0 yE [.ptr 0 0, .agg (ei p.1 p.2 a g)] T fun x T' =>x= .val (.int .i64 (iI p a g))∧RibT W (eU H p a g) T' :=by
 obtain ⟨lk,lk2,es,es2,ck,ck2,rfl,h1,h2⟩:=h
 have hS:aT Try.prog ac (aD [(yD,Bo (gu p a g)),(ix,kM)]):=aQ fun q hq=>by
  rcases List.mem_cons.1 hq with rfl | hq;exact Es _
  obtain rfl:=List.mem_singleton.1 hq;exact pw
 have hput:=fun hg:cL a=true=>h2.put p a hl (lH hg) rfl
 have hdel:=h2.del p
 refine VCx.keepQ 3 0 (Nat.le_refl _) (Nat.le_refl _) (am ae aa hS ah (Gu lk lk2 es es2 ck ck2 p.1 p.2 a g (gu p a g) _) ⟨⟨p,a,g,rfl,ha,rfl⟩, ?_⟩)
 cases hc:gu p a g with
 | false=>exact ⟨by simp only [iI,hc];rfl,by simp only [eU,hc];exact eF h1 h2 _⟩
 | true=>
  refine bh rfl ?_
  cases g with
  | true=>exact ⟨by simp only [iI,hc];rfl,by simp only [eU,hc];exact eF h1 hdel _⟩
  | false=>
   have hg:cL a=true:=by unfold gu at hc;simp only [cond_false,Bool.and_eq_true] at hc;exact hc.2
   exact ⟨⟨a,rfl,lH hg⟩,⟨rfl,rfl,rfl,trivial⟩,by simp only [iI,hc];rfl,by simp only [eU,hc];exact eF h1 (hput hg) _⟩
theorem Ew {T:VT} (h:RibT W H T):VCx Try.prog ac 0 yF [.ptr 0 0] T fun x T' =>x= .tup []∧RibT W [] T' :=by
 obtain ⟨lk,lk2,es,es2,ck,ck2,rfl,h1,h2⟩:=h
 exact VCx.keepQ 3 0 (Nat.le_refl _) (Nat.le_refl _) (am ae aa ag ah (Gv lk lk2 es es2 ck ck2 _) ⟨rfl,eF h1 (TbOk.empty ck2) _⟩)
theorem Ex (y:AtV) (b:Bool):aT Try.prog ac (aD [(tB,yK y b)]):=aQ fun p hp=>by obtain rfl:=List.mem_singleton.1 hp;exact Ep _ _
theorem Ey {T:VT} (h:RibT W H T) (p:Px):VCx Try.prog ac 0 yG [.ptr 0 0,dg p.1 p.2] T fun x T' =>x= .tup [.agg (bR W p).cells, .val (.bool (bo W p))]∧T' =T:=by
 obtain ⟨lk,lk2,es,es2,ck,ck2,rfl,h1,h2⟩:=h
 refine VCx.keepQ 3 0 (Nat.le_refl _) (Nat.le_refl _) (am ae aa (Ex _ _) ah (Gw lk lk2 es es2 ck ck2 p.1 p.2 (bR W p) (bo W p) _) ⟨⟨rfl,W,rfl,h1,rfl,rfl⟩, ?_,nn h1 h2 _⟩)
 simp only [TV.ren,av,AtV.cells,cD,Tok.ren]
theorem Ez {T:VT} (h:RibT W H T) (p:Px):VCx Try.prog ac 0 yH [.ptr 0 0,dg p.1 p.2] T fun x T' =>x= .tup [.agg (bR H p).cells, .val (.bool (bo H p))]∧T' =T:=by
 obtain ⟨lk,lk2,es,es2,ck,ck2,rfl,h1,h2⟩:=h
 refine VCx.keepQ 3 0 (Nat.le_refl _) (Nat.le_refl _) (am ae aa (Ex _ _) ah (Gx lk lk2 es es2 ck ck2 p.1 p.2 (bR H p) (bo H p) _) ⟨⟨rfl,H,rfl,h2,rfl,rfl⟩, ?_,nn h1 h2 _⟩)
 simp only [TV.ren,av,AtV.cells,cD,Tok.ren]
theorem EA {T:VT} (h:RibT W H T):VCx Try.prog ac 0 yI [.ptr 0 0] T fun x T' =>x= .tup [.val (.int .i64 W.length), .val (.int .i64 H.length)]∧T' =T:=by
 obtain ⟨lk,lk2,es,es2,ck,ck2,rfl,h1,h2⟩:=h
 refine VCx.keepQ 3 0 (Nat.le_refl _) (Nat.le_refl _) (am ae aa ag ah (Gy lk lk2 es es2 ck ck2 _) ⟨?_,nn h1 h2 _⟩)
 rw [h1.len,h2.len];rfl
end
end
section
open Go.RowKit

def AY (sh:KS) (lk:bQ) (es:bF) (ck:Nat):Prop:=sh=kP∧MkOk lk es ck
def AZ (es:bF) (L:Bs):Prop:=∃l:List Px,l.Perm (kL es)∧L=l.map aw
def A0 (L:Bs):Prop:=∃l:List Px,L=l.map aw∧l.length≤1000
def nM (L:Bs):Bs:=(b9 (dT (DJ L))).map aw
def bx (W H:List ak):List Px:=(H.map (·.1)).filter fun p=> !bo W p
def br (W H:List ak):List ak:=W.filter fun r=> !decide (aH H r.1=some r.2)
def bd (r:ak):List TV:=ei r.1.1 r.1.2 r.2 false
def xC:List ak→TV
 | []=> .val (.slice none 0 0)
 | r::l=> .vec 8 ((r::l).map bd) (.tail 0 (r::l).length)
def tC:List ak→bA
 | []=> []
 | r::l=> [((r::l).length,8,true)]
abbrev nN:=11
abbrev nO:=14
abbrev cj:=74
abbrev yM:=18
noncomputable def dV:Code:=match cC (ii Try.prog nN) with
 | some (a,_)=>a
 | none=> .skip
noncomputable def di:Code:=match cC (ii Try.prog nN) with
 | some (_,b)=>b
 | none=> .skip
noncomputable def dk:Code:=match cC (ii Try.prog nO) with
 | some (a,_)=>a
 | none=> .skip
noncomputable def cO:Code:=match cC (ii Try.prog nO) with
 | some (_,b)=>b
 | none=> .skip
def HW:List TV:= [.ptr 0 0, .ptr 3 0, .val (.slice none 0 0), .ptr 4 0,uT,uT,uT, .ptr 0 0, .val (.bool true), .val (.bool false), .ptr 0 0, .ptr 0 0, .ptr 0 1, .map 2, .fn (.func cj) [] [.ptr 5 0]]++List.replicate 18 uT
def HY:List TV:= [.ptr 0 0, .ptr 3 0, .val (.slice none 0 0), .ptr 4 0,uT,uT,uT,uT, .ptr 0 0, .val (.bool true), .val (.bool false), .ptr 0 0, .ptr 0 0, .ptr 0 0, .map 1, .fn (.func cj) [] [.ptr 5 0]]++List.replicate 27 uT
def vt:aJ:=fun ro ys T K=>match ys with
 | [.fn (.func f) [] [.ptr b 0]]=>match T.objs[b]? with
  | some (.cells [.map m])=>match T.objs[m]? with
   | some (.map sh lk es ck)=>(((@Eq Nat f ec)∧((@Eq Bool (Nat.ble ro b) true)∧(@Eq Bool (Nat.ble ro m) true)))∧AY sh lk es ck)∧∀L:Bs,AZ es L→K (.vec 2 L .none) T
   | _=>ar 87 default ys
  | _=>ar 86 default ys
 | _=>ar 85 default ys
def vu:aJ:=fun _ ys T K=>match ys with
 | [.vec 2 L _]=>A0 L∧K (.vec 2 (nM L) .none) T
 | _=>ar 85 default ys
def gv:List Nat:= [0,1,8,9,10]
def ge (S:Bs) (j:Int):List TV:= [.yld 7, .ptr 5 0, .vec 2 S .none, .val (.int .i64 S.length), .val (.int .i64 j)]
noncomputable def tF (lk lk2:bQ) (es es2:bF) (ck ck2:Nat) (x:TV):List VO:= [.cells [.map 1, .map 2], .map kP lk es ck, .map kP lk2 es2 ck2, .cells [.ptr 0 0], .cells [x], .cells [.map 2], .defd, .loop .ready none HW #[15,16] dV di]
noncomputable def tG (lk lk2:bQ) (es es2:bF) (ck ck2:Nat) (x:TV):List VO:= [.cells [.map 1, .map 2], .map kP lk es ck, .map kP lk2 es2 ck2, .cells [.ptr 0 0], .cells [x], .cells [.map 1], .defd, .loop .ready none HY #[16,17] dk cO]
noncomputable def lU (lk lk2:bQ) (es es2:bF) (ck ck2:Nat) (x:TV) (tl:bA):VT:=⟨tF lk lk2 es es2 ck ck2 x++ [.cells [.map 2]],tl⟩
noncomputable def kN (lk lk2:bQ) (es es2:bF) (ck ck2:Nat) (x:TV) (tl:bA):VT:=⟨tG lk lk2 es es2 ck ck2 x++ [.cells [.map 1]],tl⟩
def gz:TV:= .val (.slice none 0 0)
noncomputable def EB (lk lk2:bQ) (es es2:bF) (ck ck2:Nat) (S:Bs) (x:TV) (tl:bA) (c0:Code):Nat→Option (bu × Code):=cw [(0,dE 22 gv [] (ge S 0) (lU lk lk2 es es2 ck ck2 gz []) (fun K=>K .normal (aG 22 gv (ge S S.length)) (lU lk lk2 es es2 ck ck2 x tl) []),c0)]
noncomputable def EC (lk lk2:bQ) (es es2:bF) (ck ck2:Nat) (S:Bs) (x:TV) (tl:bA) (c0:Code):Nat→Option (bu × Code):=cw [(0,dE 22 gv [] (ge S 0) (kN lk lk2 es es2 ck ck2 gz []) (fun K=>K .normal (aG 22 gv (ge S S.length)) (kN lk lk2 es es2 ck ck2 x tl) []),c0)]
def ED (T:VT) (x:TV) (tl:bA):Prop:=∃W H lk lk2 es es2 ck ck2,T=⟨tF lk lk2 es es2 ck ck2 gz, []⟩∧(TbOk W lk es ck∧TbOk H lk2 es2 ck2)∧x=xP (bx W H)∧tl=tP (bx W H)
def EE (T:VT) (x:TV) (tl:bA):Prop:=∃W H lk lk2 es es2 ck ck2,T=⟨tG lk lk2 es es2 ck ck2 gz, []⟩∧(TbOk W lk es ck∧TbOk H lk2 es2 ck2)∧x=xC (br W H)∧tl=tC (br W H)
def A1 (x:TV) (tl:bA):aJ:=fun ro ys T K=>match ys with
 | [.yld 7, .ptr 5 0]=>(ro=0∧ED T x tl)∧K (.tup []) ⟨T.objs.set 4 (.cells [x]),tl⟩
 | _=>ar 85 default ys
def A2 (x:TV) (tl:bA):aJ:=fun ro ys T K=>match ys with
 | [.yld 7, .ptr 5 0]=>(ro=0∧EE T x tl)∧K (.tup []) ⟨T.objs.set 4 (.cells [x]),tl⟩
 | _=>ar 85 default ys
def EF (T:VT) (L:Bs):Prop:=∃W H,RibT W H T∧L=(bx W H).map aw
def EG (T:VT) (L:Bs):Prop:=∃W H,RibT W H T∧L=(br W H).map bd
def Bq (L:Bs):aJ:=fun ro ys T K=>match ys with
 | [.ptr 0 0]=>(ro=0∧EF T L)∧K (.vec 2 L .none) T
 | _=>ar 85 default ys
def Br (L:Bs):aJ:=fun ro ys T K=>match ys with
 | [.ptr 0 0]=>(ro=0∧EG T L)∧K (.vec 8 L .none) T
 | _=>ar 85 default ys
theorem Gz (lk lk2:bQ) (es es2:bF) (ck ck2:Nat) (x:TV) (tl:bA) (Q:TV→VT→Prop):aq Try.prog ac (aD [(cj,A1 x tl)]) (aB [(999998, .dead,none)]) 300 aE 0 nN [.ptr 0 0] (dh lk lk2 es es2 ck ck2) Q=
 (((@Eq (Nat) 0 0)∧
 ED ⟨[(.cells [(.map 1),(.map 2)]),(.map ⟨true, [(.int .u32),(.int .i64)]⟩ (lk) (es) (ck)),(.map ⟨true, [(.int .u32),(.int .i64)]⟩ (lk2) (es2) (ck2)),(.cells [(.ptr 0 0)]),(.cells [(.val (.slice .none 0 0))]),(.cells [(.map 2)]), .defd,(.loop .ready .none [(.ptr 0 0),(.ptr 3 0),(.val (.slice .none 0 0)),(.ptr 4 0),(.val (.tuple #[])),(.val (.tuple #[])),(.val (.tuple #[])),(.ptr 0 0),(.val (.bool true)),(.val (.bool false)),(.ptr 0 0),(.ptr 0 0),(.ptr 0 1),(.map 2),(.fn (.func 74) [] [(.ptr 5 0)]),(.val (.tuple #[])),(.val (.tuple #[])),(.val (.tuple #[])),(.val (.tuple #[])),(.val (.tuple #[])),(.val (.tuple #[])),(.val (.tuple #[])),(.val (.tuple #[])),(.val (.tuple #[])),(.val (.tuple #[])),(.val (.tuple #[])),(.val (.tuple #[])),(.val (.tuple #[])),(.val (.tuple #[])),(.val (.tuple #[])),(.val (.tuple #[])),(.val (.tuple #[])),(.val (.tuple #[]))] #[15,16] dV di)], []⟩ (x) (tl))∧
 Q (x) ⟨[(.cells [(.map 1),(.map 2)]),(.map ⟨true, [(.int .u32),(.int .i64)]⟩ (lk) (es) (ck)),(.map ⟨true, [(.int .u32),(.int .i64)]⟩ (lk2) (es2) (ck2)),(.cells [(.ptr 0 0)]),(.cells [(x)]),(.cells [(.map 2)]), .gone,(.loop .exhausted .none [(.ptr 0 0),(.ptr 3 0),(.val (.slice .none 0 0)),(.ptr 4 0),(.val (.tuple #[])),(.val (.tuple #[])),(.val (.tuple #[])),(.ptr 0 0),(.val (.bool true)),(.val (.bool false)),(.ptr 0 0),(.ptr 0 0),(.ptr 0 1),(.map 2),(.fn (.func 74) [] [(.ptr 5 0)]),(.val (.tuple #[])),(.val (.tuple #[])),(.val (.tuple #[])),(.val (.tuple #[])),(.val (.tuple #[])),(.val (.tuple #[])),(.val (.tuple #[])),(.val (.tuple #[])),(.val (.tuple #[])),(.val (.tuple #[])),(.val (.tuple #[])),(.val (.tuple #[])),(.val (.tuple #[])),(.val (.tuple #[])),(.val (.tuple #[])),(.val (.tuple #[])),(.val (.tuple #[])),(.val (.tuple #[]))] #[15,16] dV di)],(tl)⟩):=by kernel_rfl
theorem GA (lk lk2:bQ) (es es2:bF) (ck ck2:Nat) (x:TV) (tl:bA) (Q:TV→VT→Prop):aq Try.prog ac (aD [(cj,A2 x tl)]) (aB [(999998, .dead,none)]) 300 aE 0 nO [.ptr 0 0] (dh lk lk2 es es2 ck ck2) Q=
 (((@Eq (Nat) 0 0)∧
 EE ⟨[(.cells [(.map 1),(.map 2)]),(.map ⟨true, [(.int .u32),(.int .i64)]⟩ (lk) (es) (ck)),(.map ⟨true, [(.int .u32),(.int .i64)]⟩ (lk2) (es2) (ck2)),(.cells [(.ptr 0 0)]),(.cells [(.val (.slice .none 0 0))]),(.cells [(.map 1)]), .defd,(.loop .ready .none [(.ptr 0 0),(.ptr 3 0),(.val (.slice .none 0 0)),(.ptr 4 0),(.val (.tuple #[])),(.val (.tuple #[])),(.val (.tuple #[])),(.val (.tuple #[])),(.ptr 0 0),(.val (.bool true)),(.val (.bool false)),(.ptr 0 0),(.ptr 0 0),(.ptr 0 0),(.map 1),(.fn (.func 74) [] [(.ptr 5 0)]),(.val (.tuple #[])),(.val (.tuple #[])),(.val (.tuple #[])),(.val (.tuple #[])),(.val (.tuple #[])),(.val (.tuple #[])),(.val (.tuple #[])),(.val (.tuple #[])),(.val (.tuple #[])),(.val (.tuple #[])),(.val (.tuple #[])),(.val (.tuple #[])),(.val (.tuple #[])),(.val (.tuple #[])),(.val (.tuple #[])),(.val (.tuple #[])),(.val (.tuple #[])),(.val (.tuple #[])),(.val (.tuple #[])),(.val (.tuple #[])),(.val (.tuple #[])),(.val (.tuple #[])),(.val (.tuple #[])),(.val (.tuple #[])),(.val (.tuple #[])),(.val (.tuple #[])),(.val (.tuple #[]))] #[16,17] dk cO)], []⟩ (x) (tl))∧
 Q (x) ⟨[(.cells [(.map 1),(.map 2)]),(.map ⟨true, [(.int .u32),(.int .i64)]⟩ (lk) (es) (ck)),(.map ⟨true, [(.int .u32),(.int .i64)]⟩ (lk2) (es2) (ck2)),(.cells [(.ptr 0 0)]),(.cells [(x)]),(.cells [(.map 1)]), .gone,(.loop .exhausted .none [(.ptr 0 0),(.ptr 3 0),(.val (.slice .none 0 0)),(.ptr 4 0),(.val (.tuple #[])),(.val (.tuple #[])),(.val (.tuple #[])),(.val (.tuple #[])),(.ptr 0 0),(.val (.bool true)),(.val (.bool false)),(.ptr 0 0),(.ptr 0 0),(.ptr 0 0),(.map 1),(.fn (.func 74) [] [(.ptr 5 0)]),(.val (.tuple #[])),(.val (.tuple #[])),(.val (.tuple #[])),(.val (.tuple #[])),(.val (.tuple #[])),(.val (.tuple #[])),(.val (.tuple #[])),(.val (.tuple #[])),(.val (.tuple #[])),(.val (.tuple #[])),(.val (.tuple #[])),(.val (.tuple #[])),(.val (.tuple #[])),(.val (.tuple #[])),(.val (.tuple #[])),(.val (.tuple #[])),(.val (.tuple #[])),(.val (.tuple #[])),(.val (.tuple #[])),(.val (.tuple #[])),(.val (.tuple #[])),(.val (.tuple #[])),(.val (.tuple #[])),(.val (.tuple #[])),(.val (.tuple #[])),(.val (.tuple #[])),(.val (.tuple #[]))] #[16,17] dk cO)],(tl)⟩):=by kernel_rfl
theorem GB (lk lk2:bQ) (es es2:bF) (ck ck2:Nat) (S:Bs) (x:TV) (tl:bA) (Q:TV→VT→Prop):aq Try.prog ac (aD [(tq,vt),(rf,vu)]) (aB [(999998, .dead,none)]) 300 (EB lk lk2 es es2 ck ck2 S x tl (au Try.prog cj 0)) 0 cj [.yld 7, .ptr 5 0] ⟨tF lk lk2 es es2 ck ck2 gz, []⟩ Q=
 ((((@Eq (Nat) 108 108)∧
 ((@Eq (Bool) true true)∧
 (@Eq (Bool) true true)))∧
 AY ⟨true, [(.int .u32),(.int .i64)]⟩ (lk2) (es2) (ck2))∧
 (∀L:Bs,(AZ (es2) (L)→(A0 (L)∧
 ((au Try.prog cj (0:Nat)=au Try.prog cj (0:Nat))∧
 (((@Eq (Option Nat) .none .none)∧
 ((@Eq (Nat) 0 0)∧
 ((@Eq (List Nat) [] [])∧
 (True  ∧
 ((@Eq (VT) ⟨[(.cells [(.map 1),(.map 2)]),(.map ⟨true, [(.int .u32),(.int .i64)]⟩ (lk) (es) (ck)),(.map ⟨true, [(.int .u32),(.int .i64)]⟩ (lk2) (es2) (ck2)),(.cells [(.ptr 0 0)]),(.cells [(.val (.slice .none 0 0))]),(.cells [(.map 2)]), .defd,(.loop .ready .none [(.ptr 0 0),(.ptr 3 0),(.val (.slice .none 0 0)),(.ptr 4 0),(.val (.tuple #[])),(.val (.tuple #[])),(.val (.tuple #[])),(.ptr 0 0),(.val (.bool true)),(.val (.bool false)),(.ptr 0 0),(.ptr 0 0),(.ptr 0 1),(.map 2),(.fn (.func 74) [] [(.ptr 5 0)]),(.val (.tuple #[])),(.val (.tuple #[])),(.val (.tuple #[])),(.val (.tuple #[])),(.val (.tuple #[])),(.val (.tuple #[])),(.val (.tuple #[])),(.val (.tuple #[])),(.val (.tuple #[])),(.val (.tuple #[])),(.val (.tuple #[])),(.val (.tuple #[])),(.val (.tuple #[])),(.val (.tuple #[])),(.val (.tuple #[])),(.val (.tuple #[])),(.val (.tuple #[])),(.val (.tuple #[]))] #[15,16] dV di),(.cells [(.map 2)])], []⟩ ⟨[(.cells [(.map 1),(.map 2)]),(.map ⟨true, [(.int .u32),(.int .i64)]⟩ (lk) (es) (ck)),(.map ⟨true, [(.int .u32),(.int .i64)]⟩ (lk2) (es2) (ck2)),(.cells [(.ptr 0 0)]),(.cells [(.val (.slice .none 0 0))]),(.cells [(.map 2)]), .defd,(.loop .ready .none [(.ptr 0 0),(.ptr 3 0),(.val (.slice .none 0 0)),(.ptr 4 0),(.val (.tuple #[])),(.val (.tuple #[])),(.val (.tuple #[])),(.ptr 0 0),(.val (.bool true)),(.val (.bool false)),(.ptr 0 0),(.ptr 0 0),(.ptr 0 1),(.map 2),(.fn (.func 74) [] [(.ptr 5 0)]),(.val (.tuple #[])),(.val (.tuple #[])),(.val (.tuple #[])),(.val (.tuple #[])),(.val (.tuple #[])),(.val (.tuple #[])),(.val (.tuple #[])),(.val (.tuple #[])),(.val (.tuple #[])),(.val (.tuple #[])),(.val (.tuple #[])),(.val (.tuple #[])),(.val (.tuple #[])),(.val (.tuple #[])),(.val (.tuple #[])),(.val (.tuple #[])),(.val (.tuple #[])),(.val (.tuple #[]))] #[15,16] dV di),(.cells [(.map 2)])], []⟩)∧
 ((@Eq (Bool) true true)∧
 (@Eq (List TV) [(.yld 7),(.ptr 5 0),(.vec 2 (nM L) .none),(.val (.int .i64 ((↑(List.length (nM L)):Int)))),(.val (.int .i64 0))] [(.yld 7),(.ptr 5 0),(.vec 2 (S) .none),(.val (.int .i64 ((↑(List.length S):Int)))),(.val (.int .i64 0))])))))))∧
 Q (.tup []) ⟨[(.cells [(.map 1),(.map 2)]),(.map ⟨true, [(.int .u32),(.int .i64)]⟩ (lk) (es) (ck)),(.map ⟨true, [(.int .u32),(.int .i64)]⟩ (lk2) (es2) (ck2)),(.cells [(.ptr 0 0)]),(.cells [(x)]),(.cells [(.map 2)]), .defd,(.loop .ready .none [(.ptr 0 0),(.ptr 3 0),(.val (.slice .none 0 0)),(.ptr 4 0),(.val (.tuple #[])),(.val (.tuple #[])),(.val (.tuple #[])),(.ptr 0 0),(.val (.bool true)),(.val (.bool false)),(.ptr 0 0),(.ptr 0 0),(.ptr 0 1),(.map 2),(.fn (.func 74) [] [(.ptr 5 0)]),(.val (.tuple #[])),(.val (.tuple #[])),(.val (.tuple #[])),(.val (.tuple #[])),(.val (.tuple #[])),(.val (.tuple #[])),(.val (.tuple #[])),(.val (.tuple #[])),(.val (.tuple #[])),(.val (.tuple #[])),(.val (.tuple #[])),(.val (.tuple #[])),(.val (.tuple #[])),(.val (.tuple #[])),(.val (.tuple #[])),(.val (.tuple #[])),(.val (.tuple #[])),(.val (.tuple #[]))] #[15,16] dV di),(.cells [(.map 2)])],(tl)⟩)))))):=by kernel_rfl
theorem GC (lk lk2:bQ) (es es2:bF) (ck ck2:Nat) (S:Bs) (x:TV) (tl:bA) (Q:TV→VT→Prop):aq Try.prog ac (aD [(tq,vt),(rf,vu)]) (aB [(999998, .dead,none)]) 300 (EC lk lk2 es es2 ck ck2 S x tl (au Try.prog cj 0)) 0 cj [.yld 7, .ptr 5 0] ⟨tG lk lk2 es es2 ck ck2 gz, []⟩ Q=
 ((((@Eq (Nat) 108 108)∧
 ((@Eq (Bool) true true)∧
 (@Eq (Bool) true true)))∧
 AY ⟨true, [(.int .u32),(.int .i64)]⟩ (lk) (es) (ck))∧
 (∀L:Bs,(AZ (es) (L)→(A0 (L)∧
 ((au Try.prog cj (0:Nat)=au Try.prog cj (0:Nat))∧
 (((@Eq (Option Nat) .none .none)∧
 ((@Eq (Nat) 0 0)∧
 ((@Eq (List Nat) [] [])∧
 (True  ∧
 ((@Eq (VT) ⟨[(.cells [(.map 1),(.map 2)]),(.map ⟨true, [(.int .u32),(.int .i64)]⟩ (lk) (es) (ck)),(.map ⟨true, [(.int .u32),(.int .i64)]⟩ (lk2) (es2) (ck2)),(.cells [(.ptr 0 0)]),(.cells [(.val (.slice .none 0 0))]),(.cells [(.map 1)]), .defd,(.loop .ready .none [(.ptr 0 0),(.ptr 3 0),(.val (.slice .none 0 0)),(.ptr 4 0),(.val (.tuple #[])),(.val (.tuple #[])),(.val (.tuple #[])),(.val (.tuple #[])),(.ptr 0 0),(.val (.bool true)),(.val (.bool false)),(.ptr 0 0),(.ptr 0 0),(.ptr 0 0),(.map 1),(.fn (.func 74) [] [(.ptr 5 0)]),(.val (.tuple #[])),(.val (.tuple #[])),(.val (.tuple #[])),(.val (.tuple #[])),(.val (.tuple #[])),(.val (.tuple #[])),(.val (.tuple #[])),(.val (.tuple #[])),(.val (.tuple #[])),(.val (.tuple #[])),(.val (.tuple #[])),(.val (.tuple #[])),(.val (.tuple #[])),(.val (.tuple #[])),(.val (.tuple #[])),(.val (.tuple #[])),(.val (.tuple #[])),(.val (.tuple #[])),(.val (.tuple #[])),(.val (.tuple #[])),(.val (.tuple #[])),(.val (.tuple #[])),(.val (.tuple #[])),(.val (.tuple #[])),(.val (.tuple #[])),(.val (.tuple #[])),(.val (.tuple #[]))] #[16,17] dk cO),(.cells [(.map 1)])], []⟩ ⟨[(.cells [(.map 1),(.map 2)]),(.map ⟨true, [(.int .u32),(.int .i64)]⟩ (lk) (es) (ck)),(.map ⟨true, [(.int .u32),(.int .i64)]⟩ (lk2) (es2) (ck2)),(.cells [(.ptr 0 0)]),(.cells [(.val (.slice .none 0 0))]),(.cells [(.map 1)]), .defd,(.loop .ready .none [(.ptr 0 0),(.ptr 3 0),(.val (.slice .none 0 0)),(.ptr 4 0),(.val (.tuple #[])),(.val (.tuple #[])),(.val (.tuple #[])),(.val (.tuple #[])),(.ptr 0 0),(.val (.bool true)),(.val (.bool false)),(.ptr 0 0),(.ptr 0 0),(.ptr 0 0),(.map 1),(.fn (.func 74) [] [(.ptr 5 0)]),(.val (.tuple #[])),(.val (.tuple #[])),(.val (.tuple #[])),(.val (.tuple #[])),(.val (.tuple #[])),(.val (.tuple #[])),(.val (.tuple #[])),(.val (.tuple #[])),(.val (.tuple #[])),(.val (.tuple #[])),(.val (.tuple #[])),(.val (.tuple #[])),(.val (.tuple #[])),(.val (.tuple #[])),(.val (.tuple #[])),(.val (.tuple #[])),(.val (.tuple #[])),(.val (.tuple #[])),(.val (.tuple #[])),(.val (.tuple #[])),(.val (.tuple #[])),(.val (.tuple #[])),(.val (.tuple #[])),(.val (.tuple #[])),(.val (.tuple #[])),(.val (.tuple #[])),(.val (.tuple #[]))] #[16,17] dk cO),(.cells [(.map 1)])], []⟩)∧
 ((@Eq (Bool) true true)∧
 (@Eq (List TV) [(.yld 7),(.ptr 5 0),(.vec 2 (nM L) .none),(.val (.int .i64 ((↑(List.length (nM L)):Int)))),(.val (.int .i64 0))] [(.yld 7),(.ptr 5 0),(.vec 2 (S) .none),(.val (.int .i64 ((↑(List.length S):Int)))),(.val (.int .i64 0))])))))))∧
 Q (.tup []) ⟨[(.cells [(.map 1),(.map 2)]),(.map ⟨true, [(.int .u32),(.int .i64)]⟩ (lk) (es) (ck)),(.map ⟨true, [(.int .u32),(.int .i64)]⟩ (lk2) (es2) (ck2)),(.cells [(.ptr 0 0)]),(.cells [(x)]),(.cells [(.map 1)]), .defd,(.loop .ready .none [(.ptr 0 0),(.ptr 3 0),(.val (.slice .none 0 0)),(.ptr 4 0),(.val (.tuple #[])),(.val (.tuple #[])),(.val (.tuple #[])),(.val (.tuple #[])),(.ptr 0 0),(.val (.bool true)),(.val (.bool false)),(.ptr 0 0),(.ptr 0 0),(.ptr 0 0),(.map 1),(.fn (.func 74) [] [(.ptr 5 0)]),(.val (.tuple #[])),(.val (.tuple #[])),(.val (.tuple #[])),(.val (.tuple #[])),(.val (.tuple #[])),(.val (.tuple #[])),(.val (.tuple #[])),(.val (.tuple #[])),(.val (.tuple #[])),(.val (.tuple #[])),(.val (.tuple #[])),(.val (.tuple #[])),(.val (.tuple #[])),(.val (.tuple #[])),(.val (.tuple #[])),(.val (.tuple #[])),(.val (.tuple #[])),(.val (.tuple #[])),(.val (.tuple #[])),(.val (.tuple #[])),(.val (.tuple #[])),(.val (.tuple #[])),(.val (.tuple #[])),(.val (.tuple #[])),(.val (.tuple #[])),(.val (.tuple #[])),(.val (.tuple #[]))] #[16,17] dk cO),(.cells [(.map 1)])],(tl)⟩)))))):=by kernel_rfl
theorem yN (lk lk2:bQ) (es es2:bF) (ck ck2:Nat) (S:Bs) (x1:TV) (tl:bA) (j:Nat) (a n:Int) (y z:AtV) (Q:Exit→List TV→VT→List Nat→Nat→Prop):vx Try.prog ac aL (aB [(12, .elt [.val (.int .u32 a), .val (.int .i64 n)],none)]) 300 (j9 999997 (fun _ _ _ _ _ _=>False, .skip) 1000003 (mG Try.prog ac aL (aB [(999998, .dead,none),(18, .agg y.cells,none)]) (aB [(999998, .dead,none),(23, .tup [.agg z.cells, .val (.bool true)],none)]) 250 (aX Try.prog cj 3),aX Try.prog cj 3)) none 0 (b6 Try.prog cj 0) (aG 22 gv (ge S j)) (lU lk lk2 es es2 ck ck2 x1 tl) [] (cB gv Q)=
 (bif decide ((↑j:Int)<(↑(List.length S):Int))
 then (aU Try.prog (fun _=> .none) (.indexAddr 42 (.tmp 8) (.tmp 10)) [(8,(.vec 2 (S) .none)),(10,(.val (.int .i64 ((↑j:Int)))))] (.elt [(.val (.int .u32 (a))),(.val (.int .i64 (n)))])∧
 ((aX Try.prog cj (3:Nat)=aX Try.prog cj (3:Nat))∧
 (fB Try.prog (fun _=> .none) ⟨[(.cells [(.map 1),(.map 2)]),(.map ⟨true, [(.int .u32),(.int .i64)]⟩ (lk) (es) (ck)),(.map ⟨true, [(.int .u32),(.int .i64)]⟩ (lk2) (es2) (ck2)),(.cells [(.ptr 0 0)]),(.cells [(x1)]),(.cells [(.map 2)]), .defd,(.loop .ready .none [(.ptr 0 0),(.ptr 3 0),(.val (.slice .none 0 0)),(.ptr 4 0),(.val (.tuple #[])),(.val (.tuple #[])),(.val (.tuple #[])),(.ptr 0 0),(.val (.bool true)),(.val (.bool false)),(.ptr 0 0),(.ptr 0 0),(.ptr 0 1),(.map 2),(.fn (.func 74) [] [(.ptr 5 0)]),(.val (.tuple #[])),(.val (.tuple #[])),(.val (.tuple #[])),(.val (.tuple #[])),(.val (.tuple #[])),(.val (.tuple #[])),(.val (.tuple #[])),(.val (.tuple #[])),(.val (.tuple #[])),(.val (.tuple #[])),(.val (.tuple #[])),(.val (.tuple #[])),(.val (.tuple #[])),(.val (.tuple #[])),(.val (.tuple #[])),(.val (.tuple #[])),(.val (.tuple #[])),(.val (.tuple #[]))] #[15,16] dV di),(.cells [(.map 2)]),(.cells [(.val (.int .u32 (a))),(.val (.int .i64 (n)))])],(tl)⟩ false (.lookup 73 (.tmp 16) (.tmp 17) false) [(16,(.map 2)),(17,(.agg [(.val (.int .u32 (a))),(.val (.int .i64 (n)))]))] (.agg [(.val (.int .i64 (AtV.o y))),(.vec 1 (iV (AtV.p y)) .none),(.val (.int .u32 (AtV.h y))),(.val (.int .i64 (AtV.m y))),(.val (.bool (AtV.hm y)))])∧
 (iF Try.prog ⟨[(.cells [(.map 1),(.map 2)]),(.map ⟨true, [(.int .u32),(.int .i64)]⟩ (lk) (es) (ck)),(.map ⟨true, [(.int .u32),(.int .i64)]⟩ (lk2) (es2) (ck2)),(.cells [(.ptr 0 0)]),(.cells [(x1)]),(.cells [(.map 2)]), .defd,(.loop .busy .none [(.ptr 0 0),(.ptr 3 0),(.val (.slice .none 0 0)),(.ptr 4 0),(.val (.tuple #[])),(.val (.tuple #[])),(.val (.tuple #[])),(.ptr 0 0),(.val (.bool true)),(.val (.bool false)),(.ptr 0 0),(.ptr 0 0),(.ptr 0 1),(.map 2),(.fn (.func 74) [] [(.ptr 5 0)]),(.val (.tuple #[])),(.val (.tuple #[])),(.val (.tuple #[])),(.val (.tuple #[])),(.val (.tuple #[])),(.val (.tuple #[])),(.val (.tuple #[])),(.val (.tuple #[])),(.val (.tuple #[])),(.val (.tuple #[])),(.val (.tuple #[])),(.val (.tuple #[])),(.val (.tuple #[])),(.val (.tuple #[])),(.val (.tuple #[])),(.val (.tuple #[])),(.val (.tuple #[])),(.val (.tuple #[]))] #[15,16] dV di),(.cells [(.map 2)]),(.cells [(.val (.int .u32 (a))),(.val (.int .i64 (n)))]),(.cells [(.val (.int .u32 (a))),(.val (.int .i64 (n)))])],(tl)⟩ 73 (.map 1) (.agg [(.val (.int .u32 (a))),(.val (.int .i64 (n)))]) true (.tup [(.agg [(.val (.int .i64 (AtV.o z))),(.vec 1 (iV (AtV.p z)) .none),(.val (.int .u32 (AtV.h z))),(.val (.int .i64 (AtV.m z))),(.val (.bool (AtV.hm z)))]),(.val (.bool true))])∧
 Q .normal [(.yld 7),(.ptr 5 0),(.vec 2 (S) .none),(.val (.int .i64 ((↑(List.length S):Int)))),(.val (.int .i64 (IntKind.wrap IntKind.i64 ((↑j:Int)+(1:Int)))))] ⟨[(.cells [(.map 1),(.map 2)]),(.map ⟨true, [(.int .u32),(.int .i64)]⟩ (lk) (es) (ck)),(.map ⟨true, [(.int .u32),(.int .i64)]⟩ (lk2) (es2) (ck2)),(.cells [(.ptr 0 0)]),(.cells [(x1)]),(.cells [(.map 2)]), .defd,(.loop .ready .none [(.ptr 0 0),(.ptr 3 0),(.val (.slice .none 0 0)),(.ptr 4 0),(.val (.tuple #[])),(.val (.tuple #[])),(.val (.tuple #[])),(.ptr 0 0),(.val (.bool true)),(.val (.bool false)),(.ptr 0 0),(.ptr 0 0),(.ptr 0 1),(.map 2),(.fn (.func 74) [] [(.ptr 5 0)]),(.val (.tuple #[])),(.val (.tuple #[])),(.val (.tuple #[])),(.val (.tuple #[])),(.val (.tuple #[])),(.val (.tuple #[])),(.val (.tuple #[])),(.val (.tuple #[])),(.val (.tuple #[])),(.val (.tuple #[])),(.val (.tuple #[])),(.val (.tuple #[])),(.val (.tuple #[])),(.val (.tuple #[])),(.val (.tuple #[])),(.val (.tuple #[])),(.val (.tuple #[])),(.val (.tuple #[]))] #[15,16] dV di),(.cells [(.map 2)]),(.cells [(.val (.int .u32 (a))),(.val (.int .i64 (n)))]),(.cells [(.val (.int .u32 (a))),(.val (.int .i64 (n)))]),(.cells [(.val (.int .i64 (AtV.o z))),(.vec 1 (iV (AtV.p z)) .none),(.val (.int .u32 (AtV.h z))),(.val (.int .i64 (AtV.m z))),(.val (.bool (AtV.hm z)))])],(tl)⟩ [] 22))))
 else Q (.exit 0) [(.yld 7),(.ptr 5 0),(.vec 2 (S) .none),(.val (.int .i64 ((↑(List.length S):Int)))),(.val (.int .i64 ((↑j:Int))))] ⟨[(.cells [(.map 1),(.map 2)]),(.map ⟨true, [(.int .u32),(.int .i64)]⟩ (lk) (es) (ck)),(.map ⟨true, [(.int .u32),(.int .i64)]⟩ (lk2) (es2) (ck2)),(.cells [(.ptr 0 0)]),(.cells [(x1)]),(.cells [(.map 2)]), .defd,(.loop .ready .none [(.ptr 0 0),(.ptr 3 0),(.val (.slice .none 0 0)),(.ptr 4 0),(.val (.tuple #[])),(.val (.tuple #[])),(.val (.tuple #[])),(.ptr 0 0),(.val (.bool true)),(.val (.bool false)),(.ptr 0 0),(.ptr 0 0),(.ptr 0 1),(.map 2),(.fn (.func 74) [] [(.ptr 5 0)]),(.val (.tuple #[])),(.val (.tuple #[])),(.val (.tuple #[])),(.val (.tuple #[])),(.val (.tuple #[])),(.val (.tuple #[])),(.val (.tuple #[])),(.val (.tuple #[])),(.val (.tuple #[])),(.val (.tuple #[])),(.val (.tuple #[])),(.val (.tuple #[])),(.val (.tuple #[])),(.val (.tuple #[])),(.val (.tuple #[])),(.val (.tuple #[])),(.val (.tuple #[])),(.val (.tuple #[]))] #[15,16] dV di),(.cells [(.map 2)])],(tl)⟩ [] 22):=by kernel_rfl
theorem EH (lk lk2:bQ) (es es2:bF) (ck ck2:Nat) (S:Bs) (x1:TV) (l1:Bs) (tk1:Tok) (tl tl2:bA) (j:Nat) (a n:Int) (y:AtV) (Q:Exit→List TV→VT→List Nat→Nat→Prop):vx Try.prog ac aL (aB [(12, .elt [.val (.int .u32 a), .val (.int .i64 n)],none)]) 300 (j9 999997 (fun _ _ _ _ _ _=>False, .skip) 1000003 (mG Try.prog ac aL (aB [(999998, .dead,none),(18, .agg y.cells,none)]) (aB [(999998, .dead,none),(23, .tup [.agg [.val (.int .i64 0), .val (.slice none 0 0), .val (.int .u32 0), .val (.int .i64 0), .val (.bool false)], .val (.bool false)],none),(31, .vec 2 l1 tk1,some fun T=>{T with tails:=tl2})]) 250 (aX Try.prog cj 3),aX Try.prog cj 3)) none 0 (b6 Try.prog cj 0) (aG 22 gv (ge S j)) (lU lk lk2 es es2 ck ck2 x1 tl) [] (cB gv Q)=
 (bif decide ((↑j:Int)<(↑(List.length S):Int))
 then (aU Try.prog (fun _=> .none) (.indexAddr 42 (.tmp 8) (.tmp 10)) [(8,(.vec 2 (S) .none)),(10,(.val (.int .i64 ((↑j:Int)))))] (.elt [(.val (.int .u32 (a))),(.val (.int .i64 (n)))])∧
 ((aX Try.prog cj (3:Nat)=aX Try.prog cj (3:Nat))∧
 (fB Try.prog (fun _=> .none) ⟨[(.cells [(.map 1),(.map 2)]),(.map ⟨true, [(.int .u32),(.int .i64)]⟩ (lk) (es) (ck)),(.map ⟨true, [(.int .u32),(.int .i64)]⟩ (lk2) (es2) (ck2)),(.cells [(.ptr 0 0)]),(.cells [(x1)]),(.cells [(.map 2)]), .defd,(.loop .ready .none [(.ptr 0 0),(.ptr 3 0),(.val (.slice .none 0 0)),(.ptr 4 0),(.val (.tuple #[])),(.val (.tuple #[])),(.val (.tuple #[])),(.ptr 0 0),(.val (.bool true)),(.val (.bool false)),(.ptr 0 0),(.ptr 0 0),(.ptr 0 1),(.map 2),(.fn (.func 74) [] [(.ptr 5 0)]),(.val (.tuple #[])),(.val (.tuple #[])),(.val (.tuple #[])),(.val (.tuple #[])),(.val (.tuple #[])),(.val (.tuple #[])),(.val (.tuple #[])),(.val (.tuple #[])),(.val (.tuple #[])),(.val (.tuple #[])),(.val (.tuple #[])),(.val (.tuple #[])),(.val (.tuple #[])),(.val (.tuple #[])),(.val (.tuple #[])),(.val (.tuple #[])),(.val (.tuple #[])),(.val (.tuple #[]))] #[15,16] dV di),(.cells [(.map 2)]),(.cells [(.val (.int .u32 (a))),(.val (.int .i64 (n)))])],(tl)⟩ false (.lookup 73 (.tmp 16) (.tmp 17) false) [(16,(.map 2)),(17,(.agg [(.val (.int .u32 (a))),(.val (.int .i64 (n)))]))] (.agg [(.val (.int .i64 (AtV.o y))),(.vec 1 (iV (AtV.p y)) .none),(.val (.int .u32 (AtV.h y))),(.val (.int .i64 (AtV.m y))),(.val (.bool (AtV.hm y)))])∧
 (iF Try.prog ⟨[(.cells [(.map 1),(.map 2)]),(.map ⟨true, [(.int .u32),(.int .i64)]⟩ (lk) (es) (ck)),(.map ⟨true, [(.int .u32),(.int .i64)]⟩ (lk2) (es2) (ck2)),(.cells [(.ptr 0 0)]),(.cells [(x1)]),(.cells [(.map 2)]), .defd,(.loop .busy .none [(.ptr 0 0),(.ptr 3 0),(.val (.slice .none 0 0)),(.ptr 4 0),(.val (.tuple #[])),(.val (.tuple #[])),(.val (.tuple #[])),(.ptr 0 0),(.val (.bool true)),(.val (.bool false)),(.ptr 0 0),(.ptr 0 0),(.ptr 0 1),(.map 2),(.fn (.func 74) [] [(.ptr 5 0)]),(.val (.tuple #[])),(.val (.tuple #[])),(.val (.tuple #[])),(.val (.tuple #[])),(.val (.tuple #[])),(.val (.tuple #[])),(.val (.tuple #[])),(.val (.tuple #[])),(.val (.tuple #[])),(.val (.tuple #[])),(.val (.tuple #[])),(.val (.tuple #[])),(.val (.tuple #[])),(.val (.tuple #[])),(.val (.tuple #[])),(.val (.tuple #[])),(.val (.tuple #[])),(.val (.tuple #[]))] #[15,16] dV di),(.cells [(.map 2)]),(.cells [(.val (.int .u32 (a))),(.val (.int .i64 (n)))]),(.cells [(.val (.int .u32 (a))),(.val (.int .i64 (n)))])],(tl)⟩ 73 (.map 1) (.agg [(.val (.int .u32 (a))),(.val (.int .i64 (n)))]) true (.tup [(.agg [(.val (.int .i64 0)),(.val (.slice .none 0 0)),(.val (.int .u32 0)),(.val (.int .i64 0)),(.val (.bool false))]),(.val (.bool false))])∧
 (bp Try.prog (fun _=> .none) 0 ⟨[(.cells [(.map 1),(.map 2)]),(.map ⟨true, [(.int .u32),(.int .i64)]⟩ (lk) (es) (ck)),(.map ⟨true, [(.int .u32),(.int .i64)]⟩ (lk2) (es2) (ck2)),(.cells [(.ptr 0 0)]),(.cells [(x1)]),(.cells [(.map 2)]), .defd,(.loop .busy .none [(.ptr 0 0),(.ptr 3 0),(.val (.slice .none 0 0)),(.ptr 4 0),(.val (.tuple #[])),(.val (.tuple #[])),(.val (.tuple #[])),(.ptr 0 0),(.val (.bool true)),(.val (.bool false)),(.ptr 0 0),(.ptr 0 0),(.ptr 0 1),(.map 2),(.fn (.func 74) [] [(.ptr 5 0)]),(.val (.tuple #[])),(.val (.tuple #[])),(.val (.tuple #[])),(.val (.tuple #[])),(.val (.tuple #[])),(.val (.tuple #[])),(.val (.tuple #[])),(.val (.tuple #[])),(.val (.tuple #[])),(.val (.tuple #[])),(.val (.tuple #[])),(.val (.tuple #[])),(.val (.tuple #[])),(.val (.tuple #[])),(.val (.tuple #[])),(.val (.tuple #[])),(.val (.tuple #[])),(.val (.tuple #[]))] #[15,16] dV di),(.cells [(.map 2)]),(.cells [(.val (.int .u32 (a))),(.val (.int .i64 (n)))]),(.cells [(.val (.int .u32 (a))),(.val (.int .i64 (n)))]),(.cells [(.val (.int .i64 0)),(.val (.slice .none 0 0)),(.val (.int .u32 0)),(.val (.int .i64 0)),(.val (.bool false))])],(tl)⟩ (.call ⟨(.builtin .append), #[(.tmp 28),(.tmp 30)], #[42,42]⟩) [(28,(x1)),(30,(.vec 2 [[(.val (.int .u32 (a))),(.val (.int .i64 (n)))]] .full))] (.vec 2 (l1) (tk1)) ⟨[(.cells [(.map 1),(.map 2)]),(.map ⟨true, [(.int .u32),(.int .i64)]⟩ (lk) (es) (ck)),(.map ⟨true, [(.int .u32),(.int .i64)]⟩ (lk2) (es2) (ck2)),(.cells [(.ptr 0 0)]),(.cells [(x1)]),(.cells [(.map 2)]), .defd,(.loop .busy .none [(.ptr 0 0),(.ptr 3 0),(.val (.slice .none 0 0)),(.ptr 4 0),(.val (.tuple #[])),(.val (.tuple #[])),(.val (.tuple #[])),(.ptr 0 0),(.val (.bool true)),(.val (.bool false)),(.ptr 0 0),(.ptr 0 0),(.ptr 0 1),(.map 2),(.fn (.func 74) [] [(.ptr 5 0)]),(.val (.tuple #[])),(.val (.tuple #[])),(.val (.tuple #[])),(.val (.tuple #[])),(.val (.tuple #[])),(.val (.tuple #[])),(.val (.tuple #[])),(.val (.tuple #[])),(.val (.tuple #[])),(.val (.tuple #[])),(.val (.tuple #[])),(.val (.tuple #[])),(.val (.tuple #[])),(.val (.tuple #[])),(.val (.tuple #[])),(.val (.tuple #[])),(.val (.tuple #[])),(.val (.tuple #[]))] #[15,16] dV di),(.cells [(.map 2)]),(.cells [(.val (.int .u32 (a))),(.val (.int .i64 (n)))]),(.cells [(.val (.int .u32 (a))),(.val (.int .i64 (n)))]),(.cells [(.val (.int .i64 0)),(.val (.slice .none 0 0)),(.val (.int .u32 0)),(.val (.int .i64 0)),(.val (.bool false))])],(tl2)⟩∧
 Q .normal [(.yld 7),(.ptr 5 0),(.vec 2 (S) .none),(.val (.int .i64 ((↑(List.length S):Int)))),(.val (.int .i64 (IntKind.wrap IntKind.i64 ((↑j:Int)+(1:Int)))))] ⟨[(.cells [(.map 1),(.map 2)]),(.map ⟨true, [(.int .u32),(.int .i64)]⟩ (lk) (es) (ck)),(.map ⟨true, [(.int .u32),(.int .i64)]⟩ (lk2) (es2) (ck2)),(.cells [(.ptr 0 0)]),(.cells [(.vec 2 (l1) (tk1))]),(.cells [(.map 2)]), .defd,(.loop .ready .none [(.ptr 0 0),(.ptr 3 0),(.val (.slice .none 0 0)),(.ptr 4 0),(.val (.tuple #[])),(.val (.tuple #[])),(.val (.tuple #[])),(.ptr 0 0),(.val (.bool true)),(.val (.bool false)),(.ptr 0 0),(.ptr 0 0),(.ptr 0 1),(.map 2),(.fn (.func 74) [] [(.ptr 5 0)]),(.val (.tuple #[])),(.val (.tuple #[])),(.val (.tuple #[])),(.val (.tuple #[])),(.val (.tuple #[])),(.val (.tuple #[])),(.val (.tuple #[])),(.val (.tuple #[])),(.val (.tuple #[])),(.val (.tuple #[])),(.val (.tuple #[])),(.val (.tuple #[])),(.val (.tuple #[])),(.val (.tuple #[])),(.val (.tuple #[])),(.val (.tuple #[])),(.val (.tuple #[])),(.val (.tuple #[]))] #[15,16] dV di),(.cells [(.map 2)]),(.cells [(.val (.int .u32 (a))),(.val (.int .i64 (n)))]),(.cells [(.val (.int .u32 (a))),(.val (.int .i64 (n)))]),(.cells [(.val (.int .i64 0)),(.val (.slice .none 0 0)),(.val (.int .u32 0)),(.val (.int .i64 0)),(.val (.bool false))])],(tl2)⟩ [] 22)))))
 else Q (.exit 0) [(.yld 7),(.ptr 5 0),(.vec 2 (S) .none),(.val (.int .i64 ((↑(List.length S):Int)))),(.val (.int .i64 ((↑j:Int))))] ⟨[(.cells [(.map 1),(.map 2)]),(.map ⟨true, [(.int .u32),(.int .i64)]⟩ (lk) (es) (ck)),(.map ⟨true, [(.int .u32),(.int .i64)]⟩ (lk2) (es2) (ck2)),(.cells [(.ptr 0 0)]),(.cells [(x1)]),(.cells [(.map 2)]), .defd,(.loop .ready .none [(.ptr 0 0),(.ptr 3 0),(.val (.slice .none 0 0)),(.ptr 4 0),(.val (.tuple #[])),(.val (.tuple #[])),(.val (.tuple #[])),(.ptr 0 0),(.val (.bool true)),(.val (.bool false)),(.ptr 0 0),(.ptr 0 0),(.ptr 0 1),(.map 2),(.fn (.func 74) [] [(.ptr 5 0)]),(.val (.tuple #[])),(.val (.tuple #[])),(.val (.tuple #[])),(.val (.tuple #[])),(.val (.tuple #[])),(.val (.tuple #[])),(.val (.tuple #[])),(.val (.tuple #[])),(.val (.tuple #[])),(.val (.tuple #[])),(.val (.tuple #[])),(.val (.tuple #[])),(.val (.tuple #[])),(.val (.tuple #[])),(.val (.tuple #[])),(.val (.tuple #[])),(.val (.tuple #[])),(.val (.tuple #[]))] #[15,16] dV di),(.cells [(.map 2)])],(tl)⟩ [] 22):=by kernel_rfl
theorem EI (lk lk2:bQ) (es es2:bF) (ck ck2:Nat) (S:Bs) (x1:TV) (l1:Bs) (tk1:Tok) (tl tl2:bA) (j:Nat) (a n:Int) (y z:AtV) (ok:Bool) (Q:Exit→List TV→VT→List Nat→Nat→Prop):vx Try.prog ac aL (aB [(12, .elt [.val (.int .u32 a), .val (.int .i64 n)],none)]) 300 (j9 999997 (fun _ _ _ _ _ _=>False, .skip) 1000003 (mG Try.prog ac (aD [(rc,Bm ok),(ix,kM)]) (aB [(999998, .dead,none),(18, .agg y.cells,none)]) (aB [(999998, .dead,none),(24, .tup [.agg z.cells, .val (.bool true)],none),(41, .vec 8 l1 tk1,some fun T=>{T with tails:=tl2})]) 250 (aX Try.prog cj 3),aX Try.prog cj 3)) none 0 (b6 Try.prog cj 0) (aG 22 gv (ge S j)) (kN lk lk2 es es2 ck ck2 x1 tl) [] (cB gv Q)=
 (bif decide ((↑j:Int)<(↑(List.length S):Int))
 then (aU Try.prog (fun _=> .none) (.indexAddr 42 (.tmp 8) (.tmp 10)) [(8,(.vec 2 (S) .none)),(10,(.val (.int .i64 ((↑j:Int)))))] (.elt [(.val (.int .u32 (a))),(.val (.int .i64 (n)))])∧
 ((aX Try.prog cj (3:Nat)=aX Try.prog cj (3:Nat))∧
 (fB Try.prog (fun _=> .none) ⟨[(.cells [(.map 1),(.map 2)]),(.map ⟨true, [(.int .u32),(.int .i64)]⟩ (lk) (es) (ck)),(.map ⟨true, [(.int .u32),(.int .i64)]⟩ (lk2) (es2) (ck2)),(.cells [(.ptr 0 0)]),(.cells [(x1)]),(.cells [(.map 1)]), .defd,(.loop .ready .none [(.ptr 0 0),(.ptr 3 0),(.val (.slice .none 0 0)),(.ptr 4 0),(.val (.tuple #[])),(.val (.tuple #[])),(.val (.tuple #[])),(.val (.tuple #[])),(.ptr 0 0),(.val (.bool true)),(.val (.bool false)),(.ptr 0 0),(.ptr 0 0),(.ptr 0 0),(.map 1),(.fn (.func 74) [] [(.ptr 5 0)]),(.val (.tuple #[])),(.val (.tuple #[])),(.val (.tuple #[])),(.val (.tuple #[])),(.val (.tuple #[])),(.val (.tuple #[])),(.val (.tuple #[])),(.val (.tuple #[])),(.val (.tuple #[])),(.val (.tuple #[])),(.val (.tuple #[])),(.val (.tuple #[])),(.val (.tuple #[])),(.val (.tuple #[])),(.val (.tuple #[])),(.val (.tuple #[])),(.val (.tuple #[])),(.val (.tuple #[])),(.val (.tuple #[])),(.val (.tuple #[])),(.val (.tuple #[])),(.val (.tuple #[])),(.val (.tuple #[])),(.val (.tuple #[])),(.val (.tuple #[])),(.val (.tuple #[])),(.val (.tuple #[]))] #[16,17] dk cO),(.cells [(.map 1)]),(.cells [(.val (.int .u32 (a))),(.val (.int .i64 (n)))])],(tl)⟩ false (.lookup 73 (.tmp 16) (.tmp 17) false) [(16,(.map 1)),(17,(.agg [(.val (.int .u32 (a))),(.val (.int .i64 (n)))]))] (.agg [(.val (.int .i64 (AtV.o y))),(.vec 1 (iV (AtV.p y)) .none),(.val (.int .u32 (AtV.h y))),(.val (.int .i64 (AtV.m y))),(.val (.bool (AtV.hm y)))])∧
 (iF Try.prog ⟨[(.cells [(.map 1),(.map 2)]),(.map ⟨true, [(.int .u32),(.int .i64)]⟩ (lk) (es) (ck)),(.map ⟨true, [(.int .u32),(.int .i64)]⟩ (lk2) (es2) (ck2)),(.cells [(.ptr 0 0)]),(.cells [(x1)]),(.cells [(.map 1)]), .defd,(.loop .busy .none [(.ptr 0 0),(.ptr 3 0),(.val (.slice .none 0 0)),(.ptr 4 0),(.val (.tuple #[])),(.val (.tuple #[])),(.val (.tuple #[])),(.val (.tuple #[])),(.ptr 0 0),(.val (.bool true)),(.val (.bool false)),(.ptr 0 0),(.ptr 0 0),(.ptr 0 0),(.map 1),(.fn (.func 74) [] [(.ptr 5 0)]),(.val (.tuple #[])),(.val (.tuple #[])),(.val (.tuple #[])),(.val (.tuple #[])),(.val (.tuple #[])),(.val (.tuple #[])),(.val (.tuple #[])),(.val (.tuple #[])),(.val (.tuple #[])),(.val (.tuple #[])),(.val (.tuple #[])),(.val (.tuple #[])),(.val (.tuple #[])),(.val (.tuple #[])),(.val (.tuple #[])),(.val (.tuple #[])),(.val (.tuple #[])),(.val (.tuple #[])),(.val (.tuple #[])),(.val (.tuple #[])),(.val (.tuple #[])),(.val (.tuple #[])),(.val (.tuple #[])),(.val (.tuple #[])),(.val (.tuple #[])),(.val (.tuple #[])),(.val (.tuple #[]))] #[16,17] dk cO),(.cells [(.map 1)]),(.cells [(.val (.int .u32 (a))),(.val (.int .i64 (n)))]),(.cells [(.val (.int .u32 (a))),(.val (.int .i64 (n)))]),(.cells [(.val (.int .i64 (AtV.o y))),(.vec 1 (iV (AtV.p y)) .none),(.val (.int .u32 (AtV.h y))),(.val (.int .i64 (AtV.m y))),(.val (.bool (AtV.hm y)))])],(tl)⟩ 73 (.map 2) (.agg [(.val (.int .u32 (a))),(.val (.int .i64 (n)))]) true (.tup [(.agg [(.val (.int .i64 (AtV.o z))),(.vec 1 (iV (AtV.p z)) .none),(.val (.int .u32 (AtV.h z))),(.val (.int .i64 (AtV.m z))),(.val (.bool (AtV.hm z)))]),(.val (.bool true))])∧
 (og [(.val (.int .i64 (AtV.o y))),(.vec 1 (iV (AtV.p y)) .none),(.val (.int .u32 (AtV.h y))),(.val (.int .i64 (AtV.m y))),(.val (.bool (AtV.hm y)))] [(.val (.int .i64 (AtV.o z))),(.vec 1 (iV (AtV.p z)) .none),(.val (.int .u32 (AtV.h z))),(.val (.int .i64 (AtV.m z))),(.val (.bool (AtV.hm z)))] (ok)∧
 (bif !ok
 then (lF [(.val (.int .i64 (AtV.o y))),(.vec 1 (iV (AtV.p y)) .none),(.val (.int .u32 (AtV.h y))),(.val (.int .i64 (AtV.m y))),(.val (.bool (AtV.hm y)))]∧
 (((@Eq (Option TV) (.some (.agg [(.val (.int .i64 (AtV.o y))),(.vec 1 (iV (AtV.p y)) .none),(.val (.int .u32 (AtV.h y))),(.val (.int .i64 (AtV.m y))),(.val (.bool (AtV.hm y)))])) (.some (.agg [(.val (.int .i64 (AtV.o y))),(.vec 1 (iV (AtV.p y)) .none),(.val (.int .u32 (AtV.h y))),(.val (.int .i64 (AtV.m y))),(.val (.bool (AtV.hm y)))])))∧
 ((@Eq (Option TV) (.some (.agg [(.val (.int .u32 (a))),(.val (.int .i64 (n)))])) (.some (.agg [(.val (.int .u32 (a))),(.val (.int .i64 (n)))])))∧
 ((@Eq (Option TV) (.some (x1)) (.some (x1)))∧
 True)))∧
 (bp Try.prog (fun _=> .none) 0 ⟨[(.cells [(.map 1),(.map 2)]),(.map ⟨true, [(.int .u32),(.int .i64)]⟩ (lk) (es) (ck)),(.map ⟨true, [(.int .u32),(.int .i64)]⟩ (lk2) (es2) (ck2)),(.cells [(.ptr 0 0)]),(.cells [(x1)]),(.cells [(.map 1)]), .defd,(.loop .busy .none [(.ptr 0 0),(.ptr 3 0),(.val (.slice .none 0 0)),(.ptr 4 0),(.val (.tuple #[])),(.val (.tuple #[])),(.val (.tuple #[])),(.val (.tuple #[])),(.ptr 0 0),(.val (.bool true)),(.val (.bool false)),(.ptr 0 0),(.ptr 0 0),(.ptr 0 0),(.map 1),(.fn (.func 74) [] [(.ptr 5 0)]),(.val (.tuple #[])),(.val (.tuple #[])),(.val (.tuple #[])),(.val (.tuple #[])),(.val (.tuple #[])),(.val (.tuple #[])),(.val (.tuple #[])),(.val (.tuple #[])),(.val (.tuple #[])),(.val (.tuple #[])),(.val (.tuple #[])),(.val (.tuple #[])),(.val (.tuple #[])),(.val (.tuple #[])),(.val (.tuple #[])),(.val (.tuple #[])),(.val (.tuple #[])),(.val (.tuple #[])),(.val (.tuple #[])),(.val (.tuple #[])),(.val (.tuple #[])),(.val (.tuple #[])),(.val (.tuple #[])),(.val (.tuple #[])),(.val (.tuple #[])),(.val (.tuple #[])),(.val (.tuple #[]))] #[16,17] dk cO),(.cells [(.map 1)]),(.cells [(.val (.int .u32 (a))),(.val (.int .i64 (n)))]),(.cells [(.val (.int .u32 (a))),(.val (.int .i64 (n)))]),(.cells [(.val (.int .i64 (AtV.o y))),(.vec 1 (iV (AtV.p y)) .none),(.val (.int .u32 (AtV.h y))),(.val (.int .i64 (AtV.m y))),(.val (.bool (AtV.hm y)))]),(.cells [(.val (.int .i64 (AtV.o z))),(.vec 1 (iV (AtV.p z)) .none),(.val (.int .u32 (AtV.h z))),(.val (.int .i64 (AtV.m z))),(.val (.bool (AtV.hm z)))])],(tl)⟩ (.call ⟨(.builtin .append), #[(.tmp 35),(.tmp 40)], #[48,48]⟩) [(35,(x1)),(40,(.vec 8 [[(.val (.int .u32 (a))),(.val (.int .i64 (n))),(.val (.int .i64 (AtV.o y))),(.vec 1 (iV (AtV.p y)) .none),(.val (.int .u32 (AtV.h y))),(.val (.int .i64 (AtV.m y))),(.val (.bool (AtV.hm y))),(.val (.bool false))]] .full))] (.vec 8 (l1) (tk1)) ⟨[(.cells [(.map 1),(.map 2)]),(.map ⟨true, [(.int .u32),(.int .i64)]⟩ (lk) (es) (ck)),(.map ⟨true, [(.int .u32),(.int .i64)]⟩ (lk2) (es2) (ck2)),(.cells [(.ptr 0 0)]),(.cells [(x1)]),(.cells [(.map 1)]), .defd,(.loop .busy .none [(.ptr 0 0),(.ptr 3 0),(.val (.slice .none 0 0)),(.ptr 4 0),(.val (.tuple #[])),(.val (.tuple #[])),(.val (.tuple #[])),(.val (.tuple #[])),(.ptr 0 0),(.val (.bool true)),(.val (.bool false)),(.ptr 0 0),(.ptr 0 0),(.ptr 0 0),(.map 1),(.fn (.func 74) [] [(.ptr 5 0)]),(.val (.tuple #[])),(.val (.tuple #[])),(.val (.tuple #[])),(.val (.tuple #[])),(.val (.tuple #[])),(.val (.tuple #[])),(.val (.tuple #[])),(.val (.tuple #[])),(.val (.tuple #[])),(.val (.tuple #[])),(.val (.tuple #[])),(.val (.tuple #[])),(.val (.tuple #[])),(.val (.tuple #[])),(.val (.tuple #[])),(.val (.tuple #[])),(.val (.tuple #[])),(.val (.tuple #[])),(.val (.tuple #[])),(.val (.tuple #[])),(.val (.tuple #[])),(.val (.tuple #[])),(.val (.tuple #[])),(.val (.tuple #[])),(.val (.tuple #[])),(.val (.tuple #[])),(.val (.tuple #[]))] #[16,17] dk cO),(.cells [(.map 1)]),(.cells [(.val (.int .u32 (a))),(.val (.int .i64 (n)))]),(.cells [(.val (.int .u32 (a))),(.val (.int .i64 (n)))]),(.cells [(.val (.int .i64 (AtV.o y))),(.vec 1 (iV (AtV.p y)) .none),(.val (.int .u32 (AtV.h y))),(.val (.int .i64 (AtV.m y))),(.val (.bool (AtV.hm y)))]),(.cells [(.val (.int .i64 (AtV.o z))),(.vec 1 (iV (AtV.p z)) .none),(.val (.int .u32 (AtV.h z))),(.val (.int .i64 (AtV.m z))),(.val (.bool (AtV.hm z)))])],(tl2)⟩∧
 Q .normal [(.yld 7),(.ptr 5 0),(.vec 2 (S) .none),(.val (.int .i64 ((↑(List.length S):Int)))),(.val (.int .i64 (IntKind.wrap IntKind.i64 ((↑j:Int)+(1:Int)))))] ⟨[(.cells [(.map 1),(.map 2)]),(.map ⟨true, [(.int .u32),(.int .i64)]⟩ (lk) (es) (ck)),(.map ⟨true, [(.int .u32),(.int .i64)]⟩ (lk2) (es2) (ck2)),(.cells [(.ptr 0 0)]),(.cells [(.vec 8 (l1) (tk1))]),(.cells [(.map 1)]), .defd,(.loop .ready .none [(.ptr 0 0),(.ptr 3 0),(.val (.slice .none 0 0)),(.ptr 4 0),(.val (.tuple #[])),(.val (.tuple #[])),(.val (.tuple #[])),(.val (.tuple #[])),(.ptr 0 0),(.val (.bool true)),(.val (.bool false)),(.ptr 0 0),(.ptr 0 0),(.ptr 0 0),(.map 1),(.fn (.func 74) [] [(.ptr 5 0)]),(.val (.tuple #[])),(.val (.tuple #[])),(.val (.tuple #[])),(.val (.tuple #[])),(.val (.tuple #[])),(.val (.tuple #[])),(.val (.tuple #[])),(.val (.tuple #[])),(.val (.tuple #[])),(.val (.tuple #[])),(.val (.tuple #[])),(.val (.tuple #[])),(.val (.tuple #[])),(.val (.tuple #[])),(.val (.tuple #[])),(.val (.tuple #[])),(.val (.tuple #[])),(.val (.tuple #[])),(.val (.tuple #[])),(.val (.tuple #[])),(.val (.tuple #[])),(.val (.tuple #[])),(.val (.tuple #[])),(.val (.tuple #[])),(.val (.tuple #[])),(.val (.tuple #[])),(.val (.tuple #[]))] #[16,17] dk cO),(.cells [(.map 1)]),(.cells [(.val (.int .u32 (a))),(.val (.int .i64 (n)))]),(.cells [(.val (.int .u32 (a))),(.val (.int .i64 (n)))]),(.cells [(.val (.int .i64 (AtV.o y))),(.vec 1 (iV (AtV.p y)) .none),(.val (.int .u32 (AtV.h y))),(.val (.int .i64 (AtV.m y))),(.val (.bool (AtV.hm y)))]),(.cells [(.val (.int .i64 (AtV.o z))),(.vec 1 (iV (AtV.p z)) .none),(.val (.int .u32 (AtV.h z))),(.val (.int .i64 (AtV.m z))),(.val (.bool (AtV.hm z)))])],(tl2)⟩ [] 22)))
 else Q .normal [(.yld 7),(.ptr 5 0),(.vec 2 (S) .none),(.val (.int .i64 ((↑(List.length S):Int)))),(.val (.int .i64 (IntKind.wrap IntKind.i64 ((↑j:Int)+(1:Int)))))] ⟨[(.cells [(.map 1),(.map 2)]),(.map ⟨true, [(.int .u32),(.int .i64)]⟩ (lk) (es) (ck)),(.map ⟨true, [(.int .u32),(.int .i64)]⟩ (lk2) (es2) (ck2)),(.cells [(.ptr 0 0)]),(.cells [(x1)]),(.cells [(.map 1)]), .defd,(.loop .ready .none [(.ptr 0 0),(.ptr 3 0),(.val (.slice .none 0 0)),(.ptr 4 0),(.val (.tuple #[])),(.val (.tuple #[])),(.val (.tuple #[])),(.val (.tuple #[])),(.ptr 0 0),(.val (.bool true)),(.val (.bool false)),(.ptr 0 0),(.ptr 0 0),(.ptr 0 0),(.map 1),(.fn (.func 74) [] [(.ptr 5 0)]),(.val (.tuple #[])),(.val (.tuple #[])),(.val (.tuple #[])),(.val (.tuple #[])),(.val (.tuple #[])),(.val (.tuple #[])),(.val (.tuple #[])),(.val (.tuple #[])),(.val (.tuple #[])),(.val (.tuple #[])),(.val (.tuple #[])),(.val (.tuple #[])),(.val (.tuple #[])),(.val (.tuple #[])),(.val (.tuple #[])),(.val (.tuple #[])),(.val (.tuple #[])),(.val (.tuple #[])),(.val (.tuple #[])),(.val (.tuple #[])),(.val (.tuple #[])),(.val (.tuple #[])),(.val (.tuple #[])),(.val (.tuple #[])),(.val (.tuple #[])),(.val (.tuple #[])),(.val (.tuple #[]))] #[16,17] dk cO),(.cells [(.map 1)]),(.cells [(.val (.int .u32 (a))),(.val (.int .i64 (n)))]),(.cells [(.val (.int .u32 (a))),(.val (.int .i64 (n)))]),(.cells [(.val (.int .i64 (AtV.o y))),(.vec 1 (iV (AtV.p y)) .none),(.val (.int .u32 (AtV.h y))),(.val (.int .i64 (AtV.m y))),(.val (.bool (AtV.hm y)))]),(.cells [(.val (.int .i64 (AtV.o z))),(.vec 1 (iV (AtV.p z)) .none),(.val (.int .u32 (AtV.h z))),(.val (.int .i64 (AtV.m z))),(.val (.bool (AtV.hm z)))])],(tl)⟩ [] 22))))))
 else Q (.exit 0) [(.yld 7),(.ptr 5 0),(.vec 2 (S) .none),(.val (.int .i64 ((↑(List.length S):Int)))),(.val (.int .i64 ((↑j:Int))))] ⟨[(.cells [(.map 1),(.map 2)]),(.map ⟨true, [(.int .u32),(.int .i64)]⟩ (lk) (es) (ck)),(.map ⟨true, [(.int .u32),(.int .i64)]⟩ (lk2) (es2) (ck2)),(.cells [(.ptr 0 0)]),(.cells [(x1)]),(.cells [(.map 1)]), .defd,(.loop .ready .none [(.ptr 0 0),(.ptr 3 0),(.val (.slice .none 0 0)),(.ptr 4 0),(.val (.tuple #[])),(.val (.tuple #[])),(.val (.tuple #[])),(.val (.tuple #[])),(.ptr 0 0),(.val (.bool true)),(.val (.bool false)),(.ptr 0 0),(.ptr 0 0),(.ptr 0 0),(.map 1),(.fn (.func 74) [] [(.ptr 5 0)]),(.val (.tuple #[])),(.val (.tuple #[])),(.val (.tuple #[])),(.val (.tuple #[])),(.val (.tuple #[])),(.val (.tuple #[])),(.val (.tuple #[])),(.val (.tuple #[])),(.val (.tuple #[])),(.val (.tuple #[])),(.val (.tuple #[])),(.val (.tuple #[])),(.val (.tuple #[])),(.val (.tuple #[])),(.val (.tuple #[])),(.val (.tuple #[])),(.val (.tuple #[])),(.val (.tuple #[])),(.val (.tuple #[])),(.val (.tuple #[])),(.val (.tuple #[])),(.val (.tuple #[])),(.val (.tuple #[])),(.val (.tuple #[])),(.val (.tuple #[])),(.val (.tuple #[])),(.val (.tuple #[]))] #[16,17] dk cO),(.cells [(.map 1)])],(tl)⟩ [] 22):=by kernel_rfl
theorem yO (lk lk2:bQ) (es es2:bF) (ck ck2:Nat) (S:Bs) (x1:TV) (l1:Bs) (tk1:Tok) (tl tl2:bA) (j:Nat) (a n:Int) (y:AtV) (Q:Exit→List TV→VT→List Nat→Nat→Prop):vx Try.prog ac aL (aB [(12, .elt [.val (.int .u32 a), .val (.int .i64 n)],none)]) 300 (j9 999997 (fun _ _ _ _ _ _=>False, .skip) 1000003 (mG Try.prog ac (aD [(ix,kM)]) (aB [(999998, .dead,none),(18, .agg y.cells,none)]) (aB [(999998, .dead,none),(24, .tup [.agg [.val (.int .i64 0), .val (.slice none 0 0), .val (.int .u32 0), .val (.int .i64 0), .val (.bool false)], .val (.bool false)],none),(41, .vec 8 l1 tk1,some fun T=>{T with tails:=tl2})]) 250 (aX Try.prog cj 3),aX Try.prog cj 3)) none 0 (b6 Try.prog cj 0) (aG 22 gv (ge S j)) (kN lk lk2 es es2 ck ck2 x1 tl) [] (cB gv Q)=
 (bif decide ((↑j:Int)<(↑(List.length S):Int))
 then (aU Try.prog (fun _=> .none) (.indexAddr 42 (.tmp 8) (.tmp 10)) [(8,(.vec 2 (S) .none)),(10,(.val (.int .i64 ((↑j:Int)))))] (.elt [(.val (.int .u32 (a))),(.val (.int .i64 (n)))])∧
 ((aX Try.prog cj (3:Nat)=aX Try.prog cj (3:Nat))∧
 (fB Try.prog (fun _=> .none) ⟨[(.cells [(.map 1),(.map 2)]),(.map ⟨true, [(.int .u32),(.int .i64)]⟩ (lk) (es) (ck)),(.map ⟨true, [(.int .u32),(.int .i64)]⟩ (lk2) (es2) (ck2)),(.cells [(.ptr 0 0)]),(.cells [(x1)]),(.cells [(.map 1)]), .defd,(.loop .ready .none [(.ptr 0 0),(.ptr 3 0),(.val (.slice .none 0 0)),(.ptr 4 0),(.val (.tuple #[])),(.val (.tuple #[])),(.val (.tuple #[])),(.val (.tuple #[])),(.ptr 0 0),(.val (.bool true)),(.val (.bool false)),(.ptr 0 0),(.ptr 0 0),(.ptr 0 0),(.map 1),(.fn (.func 74) [] [(.ptr 5 0)]),(.val (.tuple #[])),(.val (.tuple #[])),(.val (.tuple #[])),(.val (.tuple #[])),(.val (.tuple #[])),(.val (.tuple #[])),(.val (.tuple #[])),(.val (.tuple #[])),(.val (.tuple #[])),(.val (.tuple #[])),(.val (.tuple #[])),(.val (.tuple #[])),(.val (.tuple #[])),(.val (.tuple #[])),(.val (.tuple #[])),(.val (.tuple #[])),(.val (.tuple #[])),(.val (.tuple #[])),(.val (.tuple #[])),(.val (.tuple #[])),(.val (.tuple #[])),(.val (.tuple #[])),(.val (.tuple #[])),(.val (.tuple #[])),(.val (.tuple #[])),(.val (.tuple #[])),(.val (.tuple #[]))] #[16,17] dk cO),(.cells [(.map 1)]),(.cells [(.val (.int .u32 (a))),(.val (.int .i64 (n)))])],(tl)⟩ false (.lookup 73 (.tmp 16) (.tmp 17) false) [(16,(.map 1)),(17,(.agg [(.val (.int .u32 (a))),(.val (.int .i64 (n)))]))] (.agg [(.val (.int .i64 (AtV.o y))),(.vec 1 (iV (AtV.p y)) .none),(.val (.int .u32 (AtV.h y))),(.val (.int .i64 (AtV.m y))),(.val (.bool (AtV.hm y)))])∧
 (iF Try.prog ⟨[(.cells [(.map 1),(.map 2)]),(.map ⟨true, [(.int .u32),(.int .i64)]⟩ (lk) (es) (ck)),(.map ⟨true, [(.int .u32),(.int .i64)]⟩ (lk2) (es2) (ck2)),(.cells [(.ptr 0 0)]),(.cells [(x1)]),(.cells [(.map 1)]), .defd,(.loop .busy .none [(.ptr 0 0),(.ptr 3 0),(.val (.slice .none 0 0)),(.ptr 4 0),(.val (.tuple #[])),(.val (.tuple #[])),(.val (.tuple #[])),(.val (.tuple #[])),(.ptr 0 0),(.val (.bool true)),(.val (.bool false)),(.ptr 0 0),(.ptr 0 0),(.ptr 0 0),(.map 1),(.fn (.func 74) [] [(.ptr 5 0)]),(.val (.tuple #[])),(.val (.tuple #[])),(.val (.tuple #[])),(.val (.tuple #[])),(.val (.tuple #[])),(.val (.tuple #[])),(.val (.tuple #[])),(.val (.tuple #[])),(.val (.tuple #[])),(.val (.tuple #[])),(.val (.tuple #[])),(.val (.tuple #[])),(.val (.tuple #[])),(.val (.tuple #[])),(.val (.tuple #[])),(.val (.tuple #[])),(.val (.tuple #[])),(.val (.tuple #[])),(.val (.tuple #[])),(.val (.tuple #[])),(.val (.tuple #[])),(.val (.tuple #[])),(.val (.tuple #[])),(.val (.tuple #[])),(.val (.tuple #[])),(.val (.tuple #[])),(.val (.tuple #[]))] #[16,17] dk cO),(.cells [(.map 1)]),(.cells [(.val (.int .u32 (a))),(.val (.int .i64 (n)))]),(.cells [(.val (.int .u32 (a))),(.val (.int .i64 (n)))]),(.cells [(.val (.int .i64 (AtV.o y))),(.vec 1 (iV (AtV.p y)) .none),(.val (.int .u32 (AtV.h y))),(.val (.int .i64 (AtV.m y))),(.val (.bool (AtV.hm y)))])],(tl)⟩ 73 (.map 2) (.agg [(.val (.int .u32 (a))),(.val (.int .i64 (n)))]) true (.tup [(.agg [(.val (.int .i64 0)),(.val (.slice .none 0 0)),(.val (.int .u32 0)),(.val (.int .i64 0)),(.val (.bool false))]),(.val (.bool false))])∧
 (lF [(.val (.int .i64 (AtV.o y))),(.vec 1 (iV (AtV.p y)) .none),(.val (.int .u32 (AtV.h y))),(.val (.int .i64 (AtV.m y))),(.val (.bool (AtV.hm y)))]∧
 (((@Eq (Option TV) (.some (.agg [(.val (.int .i64 (AtV.o y))),(.vec 1 (iV (AtV.p y)) .none),(.val (.int .u32 (AtV.h y))),(.val (.int .i64 (AtV.m y))),(.val (.bool (AtV.hm y)))])) (.some (.agg [(.val (.int .i64 (AtV.o y))),(.vec 1 (iV (AtV.p y)) .none),(.val (.int .u32 (AtV.h y))),(.val (.int .i64 (AtV.m y))),(.val (.bool (AtV.hm y)))])))∧
 ((@Eq (Option TV) (.some (.agg [(.val (.int .u32 (a))),(.val (.int .i64 (n)))])) (.some (.agg [(.val (.int .u32 (a))),(.val (.int .i64 (n)))])))∧
 ((@Eq (Option TV) (.some (x1)) (.some (x1)))∧
 True)))∧
 (bp Try.prog (fun _=> .none) 0 ⟨[(.cells [(.map 1),(.map 2)]),(.map ⟨true, [(.int .u32),(.int .i64)]⟩ (lk) (es) (ck)),(.map ⟨true, [(.int .u32),(.int .i64)]⟩ (lk2) (es2) (ck2)),(.cells [(.ptr 0 0)]),(.cells [(x1)]),(.cells [(.map 1)]), .defd,(.loop .busy .none [(.ptr 0 0),(.ptr 3 0),(.val (.slice .none 0 0)),(.ptr 4 0),(.val (.tuple #[])),(.val (.tuple #[])),(.val (.tuple #[])),(.val (.tuple #[])),(.ptr 0 0),(.val (.bool true)),(.val (.bool false)),(.ptr 0 0),(.ptr 0 0),(.ptr 0 0),(.map 1),(.fn (.func 74) [] [(.ptr 5 0)]),(.val (.tuple #[])),(.val (.tuple #[])),(.val (.tuple #[])),(.val (.tuple #[])),(.val (.tuple #[])),(.val (.tuple #[])),(.val (.tuple #[])),(.val (.tuple #[])),(.val (.tuple #[])),(.val (.tuple #[])),(.val (.tuple #[])),(.val (.tuple #[])),(.val (.tuple #[])),(.val (.tuple #[])),(.val (.tuple #[])),(.val (.tuple #[])),(.val (.tuple #[])),(.val (.tuple #[])),(.val (.tuple #[])),(.val (.tuple #[])),(.val (.tuple #[])),(.val (.tuple #[])),(.val (.tuple #[])),(.val (.tuple #[])),(.val (.tuple #[])),(.val (.tuple #[])),(.val (.tuple #[]))] #[16,17] dk cO),(.cells [(.map 1)]),(.cells [(.val (.int .u32 (a))),(.val (.int .i64 (n)))]),(.cells [(.val (.int .u32 (a))),(.val (.int .i64 (n)))]),(.cells [(.val (.int .i64 (AtV.o y))),(.vec 1 (iV (AtV.p y)) .none),(.val (.int .u32 (AtV.h y))),(.val (.int .i64 (AtV.m y))),(.val (.bool (AtV.hm y)))]),(.cells [(.val (.int .i64 0)),(.val (.slice .none 0 0)),(.val (.int .u32 0)),(.val (.int .i64 0)),(.val (.bool false))])],(tl)⟩ (.call ⟨(.builtin .append), #[(.tmp 35),(.tmp 40)], #[48,48]⟩) [(35,(x1)),(40,(.vec 8 [[(.val (.int .u32 (a))),(.val (.int .i64 (n))),(.val (.int .i64 (AtV.o y))),(.vec 1 (iV (AtV.p y)) .none),(.val (.int .u32 (AtV.h y))),(.val (.int .i64 (AtV.m y))),(.val (.bool (AtV.hm y))),(.val (.bool false))]] .full))] (.vec 8 (l1) (tk1)) ⟨[(.cells [(.map 1),(.map 2)]),(.map ⟨true, [(.int .u32),(.int .i64)]⟩ (lk) (es) (ck)),(.map ⟨true, [(.int .u32),(.int .i64)]⟩ (lk2) (es2) (ck2)),(.cells [(.ptr 0 0)]),(.cells [(x1)]),(.cells [(.map 1)]), .defd,(.loop .busy .none [(.ptr 0 0),(.ptr 3 0),(.val (.slice .none 0 0)),(.ptr 4 0),(.val (.tuple #[])),(.val (.tuple #[])),(.val (.tuple #[])),(.val (.tuple #[])),(.ptr 0 0),(.val (.bool true)),(.val (.bool false)),(.ptr 0 0),(.ptr 0 0),(.ptr 0 0),(.map 1),(.fn (.func 74) [] [(.ptr 5 0)]),(.val (.tuple #[])),(.val (.tuple #[])),(.val (.tuple #[])),(.val (.tuple #[])),(.val (.tuple #[])),(.val (.tuple #[])),(.val (.tuple #[])),(.val (.tuple #[])),(.val (.tuple #[])),(.val (.tuple #[])),(.val (.tuple #[])),(.val (.tuple #[])),(.val (.tuple #[])),(.val (.tuple #[])),(.val (.tuple #[])),(.val (.tuple #[])),(.val (.tuple #[])),(.val (.tuple #[])),(.val (.tuple #[])),(.val (.tuple #[])),(.val (.tuple #[])),(.val (.tuple #[])),(.val (.tuple #[])),(.val (.tuple #[])),(.val (.tuple #[])),(.val (.tuple #[])),(.val (.tuple #[]))] #[16,17] dk cO),(.cells [(.map 1)]),(.cells [(.val (.int .u32 (a))),(.val (.int .i64 (n)))]),(.cells [(.val (.int .u32 (a))),(.val (.int .i64 (n)))]),(.cells [(.val (.int .i64 (AtV.o y))),(.vec 1 (iV (AtV.p y)) .none),(.val (.int .u32 (AtV.h y))),(.val (.int .i64 (AtV.m y))),(.val (.bool (AtV.hm y)))]),(.cells [(.val (.int .i64 0)),(.val (.slice .none 0 0)),(.val (.int .u32 0)),(.val (.int .i64 0)),(.val (.bool false))])],(tl2)⟩∧
 Q .normal [(.yld 7),(.ptr 5 0),(.vec 2 (S) .none),(.val (.int .i64 ((↑(List.length S):Int)))),(.val (.int .i64 (IntKind.wrap IntKind.i64 ((↑j:Int)+(1:Int)))))] ⟨[(.cells [(.map 1),(.map 2)]),(.map ⟨true, [(.int .u32),(.int .i64)]⟩ (lk) (es) (ck)),(.map ⟨true, [(.int .u32),(.int .i64)]⟩ (lk2) (es2) (ck2)),(.cells [(.ptr 0 0)]),(.cells [(.vec 8 (l1) (tk1))]),(.cells [(.map 1)]), .defd,(.loop .ready .none [(.ptr 0 0),(.ptr 3 0),(.val (.slice .none 0 0)),(.ptr 4 0),(.val (.tuple #[])),(.val (.tuple #[])),(.val (.tuple #[])),(.val (.tuple #[])),(.ptr 0 0),(.val (.bool true)),(.val (.bool false)),(.ptr 0 0),(.ptr 0 0),(.ptr 0 0),(.map 1),(.fn (.func 74) [] [(.ptr 5 0)]),(.val (.tuple #[])),(.val (.tuple #[])),(.val (.tuple #[])),(.val (.tuple #[])),(.val (.tuple #[])),(.val (.tuple #[])),(.val (.tuple #[])),(.val (.tuple #[])),(.val (.tuple #[])),(.val (.tuple #[])),(.val (.tuple #[])),(.val (.tuple #[])),(.val (.tuple #[])),(.val (.tuple #[])),(.val (.tuple #[])),(.val (.tuple #[])),(.val (.tuple #[])),(.val (.tuple #[])),(.val (.tuple #[])),(.val (.tuple #[])),(.val (.tuple #[])),(.val (.tuple #[])),(.val (.tuple #[])),(.val (.tuple #[])),(.val (.tuple #[])),(.val (.tuple #[])),(.val (.tuple #[]))] #[16,17] dk cO),(.cells [(.map 1)]),(.cells [(.val (.int .u32 (a))),(.val (.int .i64 (n)))]),(.cells [(.val (.int .u32 (a))),(.val (.int .i64 (n)))]),(.cells [(.val (.int .i64 (AtV.o y))),(.vec 1 (iV (AtV.p y)) .none),(.val (.int .u32 (AtV.h y))),(.val (.int .i64 (AtV.m y))),(.val (.bool (AtV.hm y)))]),(.cells [(.val (.int .i64 0)),(.val (.slice .none 0 0)),(.val (.int .u32 0)),(.val (.int .i64 0)),(.val (.bool false))])],(tl2)⟩ [] 22)))))))
 else Q (.exit 0) [(.yld 7),(.ptr 5 0),(.vec 2 (S) .none),(.val (.int .i64 ((↑(List.length S):Int)))),(.val (.int .i64 ((↑j:Int))))] ⟨[(.cells [(.map 1),(.map 2)]),(.map ⟨true, [(.int .u32),(.int .i64)]⟩ (lk) (es) (ck)),(.map ⟨true, [(.int .u32),(.int .i64)]⟩ (lk2) (es2) (ck2)),(.cells [(.ptr 0 0)]),(.cells [(x1)]),(.cells [(.map 1)]), .defd,(.loop .ready .none [(.ptr 0 0),(.ptr 3 0),(.val (.slice .none 0 0)),(.ptr 4 0),(.val (.tuple #[])),(.val (.tuple #[])),(.val (.tuple #[])),(.val (.tuple #[])),(.ptr 0 0),(.val (.bool true)),(.val (.bool false)),(.ptr 0 0),(.ptr 0 0),(.ptr 0 0),(.map 1),(.fn (.func 74) [] [(.ptr 5 0)]),(.val (.tuple #[])),(.val (.tuple #[])),(.val (.tuple #[])),(.val (.tuple #[])),(.val (.tuple #[])),(.val (.tuple #[])),(.val (.tuple #[])),(.val (.tuple #[])),(.val (.tuple #[])),(.val (.tuple #[])),(.val (.tuple #[])),(.val (.tuple #[])),(.val (.tuple #[])),(.val (.tuple #[])),(.val (.tuple #[])),(.val (.tuple #[])),(.val (.tuple #[])),(.val (.tuple #[])),(.val (.tuple #[])),(.val (.tuple #[])),(.val (.tuple #[])),(.val (.tuple #[])),(.val (.tuple #[])),(.val (.tuple #[])),(.val (.tuple #[])),(.val (.tuple #[])),(.val (.tuple #[]))] #[16,17] dk cO),(.cells [(.map 1)])],(tl)⟩ [] 22):=by kernel_rfl
theorem GD (lk lk2:bQ) (es es2:bF) (ck ck2:Nat) (L L2:Bs) (Q:TV→VT→Prop):aq Try.prog ac (aD [(nN,Bq L),(nO,Br L2)]) (aB [(999998, .dead,none)]) 300 aE 0 yM [.ptr 0 0] (dh lk lk2 es es2 ck ck2) Q=
 (((@Eq (Nat) 0 0)∧
 EF ⟨[(.cells [(.map 1),(.map 2)]),(.map ⟨true, [(.int .u32),(.int .i64)]⟩ (lk) (es) (ck)),(.map ⟨true, [(.int .u32),(.int .i64)]⟩ (lk2) (es2) (ck2))], []⟩ (L))∧
 (((@Eq (Nat) 0 0)∧
 EG ⟨[(.cells [(.map 1),(.map 2)]),(.map ⟨true, [(.int .u32),(.int .i64)]⟩ (lk) (es) (ck)),(.map ⟨true, [(.int .u32),(.int .i64)]⟩ (lk2) (es2) (ck2))], []⟩ (L2))∧
 Q (.val (.bool (ax BinOp.eql (aj (Value.int IntKind.i64 (IntKind.wrap IntKind.i64 ((↑(List.length L):Int)+(↑(List.length L2):Int)))) (Value.int IntKind.i64 (0:Int)))))) ⟨[(.cells [(.map 1),(.map 2)]),(.map ⟨true, [(.int .u32),(.int .i64)]⟩ (lk) (es) (ck)),(.map ⟨true, [(.int .u32),(.int .i64)]⟩ (lk2) (es2) (ck2))], []⟩)):=by kernel_rfl
end
section
open Go.RowKit
set_option maxRecDepth 100000

theorem iJ {G:az} {T:VT} {t:TypeId} {m k:Operand} {ok:Bool} {l:List (Nat × TV)} {y:TV} (h:cP Try.prog T t (aO G l m) (aO G l k) ok=some y):fB Try.prog G T false (.lookup t m k ok) l y:=by
 refine ⟨?_⟩
 have h1:aR Try.prog (.lookup t m k ok) (aO G l)=none:=by simp [aR,cX]
 simp only [kG,h1,cond_false,aK,h]
theorem tH (l:List Px):DJ (l.map aw)=l:=by
 unfold DJ
 rw [List.map_map]
 exact (List.map_congr_left fun p _=>rfl).trans (List.map_id _)
theorem rm {α:Type} {l:List α} {i:Nat} {a:α} (h:l[i]?=some a):l.set i a=l:=List.ext_getElem? fun j=>by
 rw [List.getElem?_set]
 split
 ·rename_i e;subst e
  obtain ⟨hlt,_⟩:=List.getElem?_eq_some_iff.1 h
  rw [if_pos hlt,h]
 ·rfl
theorem VCx.toLeX {α:Type} {P:Program} {G:az} {f:FuncId} {xs:List TV} {T:VT} {Pr:α→Prop} {fx:α→TV} {Q:VT→Prop} (h:VCx P G 0 f xs T fun x T' =>∃l,Pr l∧TVle x (fx l)∧Q T'):VCx P G 0 f xs T fun x T' =>∃l,Pr l∧x=fx l∧Q T' :=by
 intro g w us rw0 hG hx
 refine Calls.mono (h g w us rw0 hG hx) ?_
 rintro e w' ⟨v,x,g',T',he,⟨l,hl,hq,hQ⟩,e',r',hv,hfx⟩
 exact ⟨v,_,g',T',he,⟨l,hl,rfl,hQ⟩,e',r',hq _ _ _ hv,hfx⟩
theorem yP:∀ro ys T K,vt ro ys T K→VCx Try.prog ac ro tq ys T K:=by
 intro ro ys T K hw
 unfold vt at hw
 split at hw
 ·rename_i f b
  split at hw
  ·rename_i m hb
   split at hw
   ·rename_i sh lk es ck hm
    obtain ⟨⟨⟨rfl,hr1,hr2⟩,rfl,h⟩,hk⟩:=hw
    have hne:m≠b:=fun e=>by subst e;rw [hm] at hb;cases hb
    have i0:bc [m,b] m=some 0:=by simp [bc,List.idxOf?,List.findIdx?,List.findIdx?.go]
    have i1:bc [m,b] b=some 1:=by simp [bc,List.idxOf?,List.findIdx?,List.findIdx?.go,hne]
    have hg:T.give [m,b] []=⟨[.map kP lk es ck, .cells [.map 0]], []⟩:=by
     simp only [VT.give,List.map_cons,List.map_nil,hm,hb,Option.getD_some,h.ren]
     simp only [VO.ren,av,TV.ren,i0]
    refine (VCx.lift (xs:= [.fn (.func ec) [] [.ptr 1 0]]) [m,b] [] ay (by simp [hne]) List.nodup_nil (fun k hk=> ?_) (by simp) (fun i hi=> ?_) ?_ (by rw [hg];exact VCx.toLeX (Pr:=fun l:List Px=>l.Perm (kL es)) (fx:=fun l=> .vec 2 (l.map aw) .none) (Q:=fun T' =>T' =⟨[.map kP lk es ck, .cells [.map 0]], []⟩) (Ea h)) (fun x T' hq=> ?_)).mono ?_
    ·simp only [List.mem_cons,List.not_mem_nil,or_false] at hk
     rcases hk with rfl | rfl
     ·exact ⟨_,hm,rfl⟩
     ·exact ⟨_,hb,rfl⟩
    ·simp only [List.mem_cons,List.not_mem_nil,or_false] at hi
     rcases hi with rfl | rfl
     ·exact Nat.le_of_ble_eq_true hr2
     ·exact Nat.le_of_ble_eq_true hr1
    ·simp only [av,TV.ren,i1]
    ·obtain ⟨l,_,_,rfl⟩:=hq
     exact ⟨Nat.le_refl _,Nat.zero_le _⟩
    ·rintro x T' ⟨y,T2,⟨l,hl,rfl,rfl⟩,rfl,rfl⟩
     have o0:aN T.objs.length [m,b] 0=some m:=rfl
     have hbk:T.back [m,b] [] ⟨[.map kP lk es ck, .cells [.map 0]], []⟩=T:=by
      simp only [VT.back,List.map_cons,List.map_nil,h.ren]
      simp only [VO.ren,av,TV.ren,o0,aV,List.append_nil,rm hm,rm hb]
     rw [hbk]
     simp only [TV.ren,de,Tok.ren]
     exact hk _ ⟨l,hl,rfl⟩
   ·exact hw.elim
  ·exact hw.elim
 ·exact hw.elim
theorem yQ:∀ro ys T K,vu ro ys T K→VCx Try.prog ac ro rf ys T K:=by
 intro ro ys T K hw
 unfold vu at hw
 split at hw
 ·obtain ⟨⟨l,rfl,hl⟩,hk⟩:=hw
  unfold nM at hk
  rw [tH] at hk
  exact VCx.loosePure ay (DZ l hl) (by simp [co]) (by simp only [av,TV.ren,de,Tok.ren]) (fun f g=>by simp only [TV.ren,de,Tok.ren]) hk
 ·exact hw.elim
theorem rp {W:List ak} {lk:bQ} {es:bF} {ck:Nat} (h:TbOk W lk es ck) {l:List Px} (hl:l.Perm (kL es)):b9 (dT l)=W.map (·.1):=by
 have hp:l.Perm (W.map (·.1)):=hl.trans h.esP
 refine pt (tf (th l)) ?_ fun x=> ?_
 ·exact List.pairwise_map.2 h.srt
 ·rw [yz]
  have h1:(dT l).Perm l:=List.mergeSort_perm _ _
  rw [h1.mem_iff,hp.mem_iff]
end
section
open Go.RowKit
set_option maxRecDepth 100000

section
variable {W H:List ak} {lk lk2:bQ} {es es2:bF} {ck ck2:Nat}
theorem py (W:List ak) (H:List ak) (r:ak):bx W (H++ [r])=bx W H++(bif bo W r.1 then [] else [r.1]):=by
 unfold bx
 rw [List.map_append,List.filter_append]
 congr 1
 simp only [List.map_cons,List.map_nil,List.filter_cons,List.filter_nil]
 cases bo W r.1<;>rfl
theorem jU (W H:List ak):(bx W H).length≤H.length:=by
 unfold bx
 have:=List.length_filter_le (fun p=> !bo W p) (H.map (·.1))
 simpa using this
theorem gA {j:Nat} (h:j≤3000000):IntKind.wrap IntKind.i64 ((j:Int)+1)=((j+1:Nat):Int):=by rw [nm (by omega) (by omega)];omega
def b7 (H:List ak):Bs:=(H.map (·.1)).map aw
theorem rq (H:List ak):(b7 H).length=H.length:=by simp [b7]
theorem np {S:Bs} {j:Nat} {p:Px} (hp:S[j]?=some (aw p)):aU Try.prog ac (.indexAddr 42 (.tmp 8) (.tmp 10)) [(8, .vec 2 S .none),(10, .val (.int .i64 (j:Int)))] (.elt (aw p)):=by
 obtain ⟨inf,z,i1,i2,i3,i4,i5⟩:=mN
 have h:=dQ (P:=Try.prog) (G:=ac) (inf:=inf) (t:=42) (x:= .tmp 8) (i:= .tmp 10) (l:= [(8, .vec 2 S .none),(10, .val (.int .i64 (j:Int)))]) (es:=S) (tok:= .none) (k:= .i64) (z:=(j:Int)) (cs:=aw p) Try.underlying42 i1 (by rw [i2];rfl) rfl (by omega) (by simpa using hp)
 exact h
theorem qk (S:List Px) (z:Int):av (an 9) (an 1) (ge (S.map aw) z)=ge (S.map aw) z:=by
 simp only [ge,av,TV.ren,de,Tok.ren];rfl
theorem EJ (objs:List VO) (l:List Px) (p:Px) (h:l.length≤2000000):bp Try.prog ac 0 ⟨objs,tP l⟩ (.call ⟨.builtin .append, #[.tmp 28, .tmp 30], #[42,42]⟩) [(28,xP l),(30, .vec 2 [aw p] .full)] (.vec 2 ((l++ [p]).map aw) (.tail 0 (l++ [p]).length)) ⟨objs,tP (l++ [p])⟩:=by
  obtain ⟨inf,z,i1,i2,i3,i4,i5⟩:=mN
  have h1:=ef (inf:=inf) (P:=Try.prog) (G:=ac) (ro:=0) (T:=⟨objs,tP l⟩) (T1:=⟨objs, [(l.length,2,true)]⟩) (t:=42) (tx:=42) (s:= .tmp 28) (x:= .tmp 30) (l:= [(28,xP l),(30, .vec 2 [aw p] .full)]) (es:=l.map aw) (es2:= [aw p]) (k:=0) (n:=l.length) (bn:=true) Try.underlying42 i1 i4 (by rw [i5,i2]) (by rw [i2];omega) (by kernel_rfl)
    (by rw [i2];cases l<;>simp [aO,bS,dz,xP,tP]) (by rw [i2];rfl)
    (by have h1:=i3
        have h2:=Nat.mul_le_mul (show (l.map aw).length+ [aw p].length≤2000001 by simp only [List.length_map,List.length_cons,List.length_nil];omega) h1
        omega)
  rw [i2] at h1
  rw [tw]
  rw [show (l++ [p]).map aw=l.map aw++ [aw p] by rw [List.map_append];rfl,show (l++ [p]).length=l.length+ [aw p].length by simp]
  exact h1
theorem oy (h:TbOk W lk es ck) (h2:TbOk H lk2 es2 ck2) (l:List VO) (tl:bA):VT.keep ⟨.cells [.map 1, .map 2]:: .map kP lk es ck:: .map kP lk2 es2 ck2::l,tl⟩ 3 0=dh lk lk2 es es2 ck ck2:=by
 have e1:=h.ren (an 3) (an 0)
 have e2:=h2.ren (an 3) (an 0)
 simp only [VT.keep,List.take_succ_cons,List.take_zero,List.map_cons,List.map_nil,e1,e2,dh]
 rfl
theorem tI (h:TbOk W lk es ck) (h2:TbOk H lk2 es2 ck2) (l:List Px) (o:List VO):VT.keep ⟨(lU lk lk2 es es2 ck ck2 (xP l) (tP l)).objs++o,tP l⟩ 9 1=lU lk lk2 es es2 ck ck2 (xP l) (tP l):=by
 have e:=h.ren (an 9) (an 1)
 have e1:=h2.ren (an 9) (an 1)
 have e2:(tP l).take 1=tP l:=List.take_of_length_le (im _)
 simp only [VT.keep,lU,tF,List.cons_append,List.nil_append,List.take_succ_cons,List.take_zero,List.map_cons,List.map_nil,e,e1,e2]
 simp only [VO.ren,av,mM]
 rfl
def be (W H:List ak) (j:Nat):List Px:=bx W (H.take j)
theorem CG (h:TbOk W lk es ck) (h2:TbOk H lk2 es2 ck2):cK Try.prog ac (EB lk lk2 es es2 ck ck2 (b7 H) (xP (bx W H)) (tP (bx W H)) (au Try.prog cj 0)):=bz fun p hp=>by
  obtain rfl:=List.mem_singleton.1 hp
  refine bP fun K hK=> ?_
  have hlen:=rq H
  have hfew:=h2.few
  refine da (f:=cj) (id:=0) (by kernel_rfl) 22 gv (fun j:Nat=>H.length-j) (fun j=>ge (b7 H) j) (fun j=>lU lk lk2 es es2 ck ck2 (xP (be W H j)) (tP (be W H j))) (fun j=>j≤H.length) 9 1 (fun j _=>⟨Nat.le_refl _,im _⟩)
    (fun e vs T=>e= .normal∧vs=ge (b7 H) (b7 H).length∧T=lU lk lk2 es es2 ck ck2 (xP (bx W H)) (tP (bx W H))) (fun j hj=> ?_) 0 (Nat.zero_le _) K ?_
  rotate_left
  · rintro e vs T ⟨rfl,rfl,rfl⟩
    exact hK
  have hL:∀F1 F2:dS,cK Try.prog ac (j9 999997 (fun _ _ _ _ _ _=>False, .skip) 1000003 (mG Try.prog ac aL F1 F2 250 (aX Try.prog cj 3),aX Try.prog cj 3)):=
    fun F1 F2=>qg (fun _ _ _ _ _ _ h=>h.elim) (fun rd ro σ T D K h=>u9 ae aa ag (F1:=F1) (F2:=F2) (n:=250) (c:=aX Try.prog cj 3) rd ro σ T D K h)
  by_cases hlt:j<H.length
  rotate_left
  · obtain rfl:j=H.length:=by omega
    have hg:be W H H.length=bx W H:=by unfold be;rw [List.take_length]
    refine bq ae aa ag (hL _ _) (yN lk lk2 es es2 ck ck2 (b7 H) (xP (be W H H.length)) (tP (be W H H.length)) H.length 0 0 dp dp _) (bh (decide_eq_false (by omega)) ?_)
    rw [hg]
    refine ⟨rfl,rfl,rfl, ?_,rfl⟩
    simp only [ge,hlen]
  · have hr:=List.getElem?_eq_getElem hlt
    generalize H[j]=r at hr
    obtain ⟨p,a⟩:=r
    have hm:(p,a)∈H:=List.mem_of_getElem? hr
    have hf2:aH H p=some a:=fS h2.srt hm
    have hel:(b7 H)[j]?=some (aw p):=by simp [b7,hr]
    have htk:be W H (j+1)=be W H j++(bif bo W p then [] else [p]):=by
      unfold be
      rw [show H.take (j+1)=H.take j++ [(p,a)] by rw [List.take_add_one,hr];rfl,py]
    have hlk2:∀(o:List VO) (tl:bA),cP Try.prog ⟨(lU lk lk2 es es2 ck ck2 (xP (be W H j)) (tP (be W H j))).objs++o,tl⟩ 73 (.map 2) (dg p.1 p.2) false=some (.agg a.cells):=fun o tl=>by
      rw [dx (id:=2) rfl,h2.look,hf2];rfl
    cases hfw:aH W p with
    | some b=>
      have hh:bo W p=true:=by rw [bo,hfw];rfl
      rw [hh,cond_true,List.append_nil] at htk
      refine bq ae aa ag (hL _ _) (yN lk lk2 es es2 ck ck2 (b7 H) (xP (be W H j)) (tP (be W H j)) j p.1 p.2 a b _) (bB (decide_eq_true (by omega)) ⟨np hel,rfl,iJ (hlk2 [_] _),⟨(dx (id:=1) rfl true).trans (by rw [io h hfw];rfl)⟩, ?_⟩)
      refine ⟨rfl,rfl,j+1,hlt,by show H.length-(j+1)<H.length-j;omega, .inr ⟨?_, ?_⟩⟩
      · show _=lU lk lk2 es es2 ck ck2 (xP (be W H (j+1))) (tP (be W H (j+1)))
        rw [htk]
        exact tI h h2 (be W H j) [_,_,_]
      · rw [gA (by omega)]
        exact qk _ _
    | none=>
      have hh:bo W p=false:=by rw [bo,hfw];rfl
      rw [hh,cond_false] at htk
      have hgl:(be W H j).length≤2000000:=by
        have:=jU W (H.take j)
        have:=List.length_take_le j H
        unfold be;omega
      refine bq ae aa ag (hL _ _) (EH lk lk2 es es2 ck ck2 (b7 H) (xP (be W H j)) ((be W H (j+1)).map aw) (.tail 0 (be W H (j+1)).length) (tP (be W H j)) (tP (be W H (j+1))) j p.1 p.2 a _) (bB (decide_eq_true (by omega)) ⟨np hel,rfl,iJ (hlk2 [_] _),⟨(dx (id:=1) rfl true).trans (by rw [ip h hfw])⟩, ?_, ?_⟩)
      · rw [htk]
        exact EJ _ (be W H j) p hgl
      · refine ⟨rfl,rfl,j+1,hlt,by show H.length-(j+1)<H.length-j;omega, .inr ⟨?_, ?_⟩⟩
        · show _=lU lk lk2 es es2 ck ck2 (xP (be W H (j+1))) (tP (be W H (j+1)))
          have hx:TV.vec 2 ((be W H (j+1)).map aw) (.tail 0 (be W H (j+1)).length)=xP (be W H (j+1)):=by rw [htk,tv]
          rw [hx]
          exact tI h h2 (be W H (j+1)) [_,_,_]
        · rw [gA (by omega)]
          exact qk _ _
theorem EK (h:TbOk W lk es ck) (h2:TbOk H lk2 es2 ck2):VCx Try.prog ac 0 cj [.yld 7, .ptr 5 0] ⟨tF lk lk2 es es2 ck ck2 gz, []⟩ fun x T' =>x= .tup []∧T' =⟨tF lk lk2 es es2 ck ck2 (xP (bx W H)),tP (bx W H)⟩:=by
 have hS:aT Try.prog ac (aD [(tq,vt),(rf,vu)]):=aQ fun p hp=>by
  rcases List.mem_cons.1 hp with rfl | hp;exact yP
  obtain rfl:=List.mem_singleton.1 hp;exact yQ
 have hfew:=h2.few
 refine VCx.keepQ 8 1 (Nat.le_refl _) (Nat.zero_le _) (am ae aa hS (CG h h2) (GB lk lk2 es es2 ck ck2 (b7 H) (xP (bx W H)) (tP (bx W H)) _) ⟨⟨⟨rfl,rfl,rfl⟩,rfl,h2.mk_ok⟩,fun L hL=> ?_⟩)
 obtain ⟨l,hl,rfl⟩:=hL
 have hk:nM (l.map aw)=b7 H:=by unfold nM b7;rw [tH,rp h2 hl]
 have hln:l.length≤1000:=by rw [hl.length_eq,h2.esP.length_eq];simpa using hfew
 refine ⟨⟨l,rfl,hln⟩,rfl,⟨rfl,rfl,rfl,trivial,rfl,rfl, ?_⟩,rfl, ?_⟩
 ·rw [hk]
 ·have e:=h.ren (an 8) (an 1)
  have e1:=h2.ren (an 8) (an 1)
  have e2:(tP (bx W H)).take 1=tP (bx W H):=List.take_of_length_le (im _)
  unfold kP at e e1
  simp only [VT.keep,tF,List.cons_append,List.nil_append,List.take_succ_cons,List.take_zero,List.map_cons,List.map_nil,e,e1,e2,kP]
  simp only [VO.ren,av,mM]
  rfl
theorem CH (x:TV) (tl:bA):∀ro ys T K,A1 x tl ro ys T K→VCx Try.prog ac ro cj ys T K:=by
 intro ro ys T K hw
 unfold A1 at hw
 split at hw
 ·obtain ⟨⟨rfl,W,H,lk,lk2,es,es2,ck,ck2,rfl,⟨h,h2⟩,rfl,rfl⟩,hk⟩:=hw
  refine (EK h h2).mono ?_
  rintro x T' ⟨rfl,rfl⟩
  exact hk
 ·exact hw.elim
theorem Bt (l:List Px) (f g:Nat→Option Nat):TVle ((xP l).ren f g) (.vec 2 (l.map aw) .none):=by
 cases l with
 | nil=>exact TVle.nil 2
 | cons p l=>
  simp only [xP,TV.ren,de]
  exact TVle.vec 2 _ _
theorem yR {T:VT} (h:RibT W H T):VCx Try.prog ac 0 nN [.ptr 0 0] T fun x T' =>x= .vec 2 ((bx W H).map aw) .none∧T' =T:=by
 obtain ⟨lk,lk2,es,es2,ck,ck2,rfl,h1,h2⟩:=h
 refine VCx.toLe (Q:=fun T' =>T' =dh lk lk2 es es2 ck ck2) (VCx.keepQ 3 0 (Nat.le_refl _) (Nat.le_refl _) (am ae aa (aQ fun p hp=>by obtain rfl:=List.mem_singleton.1 hp;exact CH _ _) ah (Gz lk lk2 es es2 ck ck2 (xP (bx W H)) (tP (bx W H)) _) ⟨⟨rfl,W,H,lk,lk2,es,es2,ck,ck2,rfl,⟨h1,h2⟩,rfl,rfl⟩,Bt _ _ _, ?_⟩))
 exact oy h1 h2 _ _
end
end
section
open Go.RowKit
set_option maxRecDepth 100000

section
variable {W H:List ak} {lk lk2:bQ} {es es2:bF} {ck ck2:Nat}
theorem pz (W H:List ak) (r:ak):br (W++ [r]) H=br W H++(bif decide (aH H r.1=some r.2) then [] else [r]):=by
 unfold br
 rw [List.filter_append]
 congr 1
 simp only [List.filter_cons,List.filter_nil]
 cases decide (aH H r.1=some r.2)<;>rfl
theorem jV (W H:List ak):(br W H).length≤W.length:=List.length_filter_le _ _
theorem CI (r:ak) (f g:Nat→Option Nat):av f g (bd r)=bd r:=by
 simp only [bd,ei,AtV.cells,List.cons_append,List.nil_append,av,TV.ren,cD,Tok.ren]
theorem dR (f g:Nat→Option Nat):∀l:List ak,c8 f g (l.map bd)=l.map bd
 | []=>rfl
 | a::l=>by simp only [List.map_cons,c8,CI,dR f g l]
theorem pA (l:List ak) (f:Nat→Option Nat):(xC l).ren f (an 1)=xC l:=by
 cases l with
 | nil=>rfl
 | cons p l=>simp only [xC,TV.ren,dR,Tok.ren];rfl
theorem kO (l:List ak):(tC l).length≤1:=by cases l<;>simp [tC]
theorem tJ (l:List ak) (p:ak):xC (l++ [p])= .vec 8 ((l++ [p]).map bd) (.tail 0 (l++ [p]).length):=by cases l<;>rfl
theorem yS (l:List ak) (p:ak):tC (l++ [p])= [((l++ [p]).length,8,true)]:=by cases l<;>rfl
theorem yT:∃(inf:TypeInfo) (z:Value),Try.prog.info? 34=some inf∧inf.size=8∧inf.bytes+1≤200∧inf.zero=some z∧z.cells.size=8:=
 ⟨(Try.prog.info? 34).getD default,((Try.prog.info? 34).getD default).zero.getD default,by kernel_rfl,by kernel_rfl,Nat.le_of_ble_eq_true (by kernel_rfl),by kernel_rfl,by kernel_rfl⟩
theorem EL (objs:List VO) (l:List ak) (p:ak) (h:l.length≤2000000):bp Try.prog ac 0 ⟨objs,tC l⟩ (.call ⟨.builtin .append, #[.tmp 35, .tmp 40], #[48,48]⟩) [(35,xC l),(40, .vec 8 [bd p] .full)] (.vec 8 ((l++ [p]).map bd) (.tail 0 (l++ [p]).length)) ⟨objs,tC (l++ [p])⟩:=by
  obtain ⟨inf,z,i1,i2,i3,i4,i5⟩:=yT
  have h1:=ef (inf:=inf) (P:=Try.prog) (G:=ac) (ro:=0) (T:=⟨objs,tC l⟩) (T1:=⟨objs, [(l.length,8,true)]⟩) (t:=48) (tx:=48) (s:= .tmp 35) (x:= .tmp 40) (l:= [(35,xC l),(40, .vec 8 [bd p] .full)]) (es:=l.map bd) (es2:= [bd p]) (k:=0) (n:=l.length) (bn:=true) Try.underlying48 i1 i4 (by rw [i5,i2]) (by rw [i2];omega) (by kernel_rfl)
    (by rw [i2];cases l<;>simp [aO,bS,dz,xC,tC]) (by rw [i2];rfl)
    (by have h1:=i3
        have h2:=Nat.mul_le_mul (show (l.map bd).length+ [bd p].length≤2000001 by simp only [List.length_map,List.length_cons,List.length_nil];omega) h1
        omega)
  rw [i2] at h1
  rw [yS]
  rw [show (l++ [p]).map bd=l.map bd++ [bd p] by rw [List.map_append];rfl,show (l++ [p]).length=l.length+ [bd p].length by simp]
  exact h1
theorem A3 (h:TbOk W lk es ck) (h2:TbOk H lk2 es2 ck2) (l:List ak) (o:List VO):VT.keep ⟨(kN lk lk2 es es2 ck ck2 (xC l) (tC l)).objs++o,tC l⟩ 9 1=kN lk lk2 es es2 ck ck2 (xC l) (tC l):=by
 have e:=h.ren (an 9) (an 1)
 have e1:=h2.ren (an 9) (an 1)
 have e2:(tC l).take 1=tC l:=List.take_of_length_le (kO _)
 simp only [VT.keep,kN,tG,List.cons_append,List.nil_append,List.take_succ_cons,List.take_zero,List.map_cons,List.map_nil,e,e1,e2]
 simp only [VO.ren,av,pA]
 rfl
def aW (W H:List ak) (j:Nat):List ak:=br (W.take j) H
theorem EM (ok:Bool):aT Try.prog ac (aD [(rc,Bm ok),(ix,kM)]):=aQ fun p hp=>by
 rcases List.mem_cons.1 hp with rfl | hp;exact DN _
 obtain rfl:=List.mem_singleton.1 hp;exact pw
theorem CJ (h:TbOk W lk es ck) (h2:TbOk H lk2 es2 ck2):cK Try.prog ac (EC lk lk2 es es2 ck ck2 (b7 W) (xC (br W H)) (tC (br W H)) (au Try.prog cj 0)):=bz fun p hp=>by
  obtain rfl:=List.mem_singleton.1 hp
  refine bP fun K hK=> ?_
  have hlen:=rq W
  have hfew:=h.few
  refine da (f:=cj) (id:=0) (by kernel_rfl) 22 gv (fun j:Nat=>W.length-j) (fun j=>ge (b7 W) j) (fun j=>kN lk lk2 es es2 ck ck2 (xC (aW W H j)) (tC (aW W H j))) (fun j=>j≤W.length) 9 1 (fun j _=>⟨Nat.le_refl _,kO _⟩)
    (fun e vs T=>e= .normal∧vs=ge (b7 W) (b7 W).length∧T=kN lk lk2 es es2 ck ck2 (xC (br W H)) (tC (br W H))) (fun j hj=> ?_) 0 (Nat.zero_le _) K ?_
  rotate_left
  · rintro e vs T ⟨rfl,rfl,rfl⟩
    exact hK
  have hL:∀(C:FuncId→Option aJ) (_:aT Try.prog ac C) (F1 F2:dS),cK Try.prog ac (j9 999997 (fun _ _ _ _ _ _=>False, .skip) 1000003 (mG Try.prog ac C F1 F2 250 (aX Try.prog cj 3),aX Try.prog cj 3)):=
    fun C hC F1 F2=>qg (fun _ _ _ _ _ _ h=>h.elim) (fun rd ro σ T D K h=>u9 ae aa hC (F1:=F1) (F2:=F2) (n:=250) (c:=aX Try.prog cj 3) rd ro σ T D K h)
  by_cases hlt:j<W.length
  rotate_left
  · obtain rfl:j=W.length:=by omega
    have hg:aW W H W.length=br W H:=by unfold aW;rw [List.take_length]
    refine bq ae aa ag (hL _ wT _ _) (yO lk lk2 es es2 ck ck2 (b7 W) (xC (aW W H W.length)) [] .none (tC (aW W H W.length)) [] W.length 0 0 dp _) (bh (decide_eq_false (by omega)) ?_)
    rw [hg]
    refine ⟨rfl,rfl,rfl, ?_,rfl⟩
    simp only [ge,hlen]
  · have hr:=List.getElem?_eq_getElem hlt
    generalize W[j]=r at hr
    obtain ⟨p,a⟩:=r
    have hm:(p,a)∈W:=List.mem_of_getElem? hr
    have hf1:aH W p=some a:=fS h.srt hm
    have hap:=h.okp _ hm
    have hel:(b7 W)[j]?=some (aw p):=by simp [b7,hr]
    have htk:aW W H (j+1)=aW W H j++(bif decide (aH H p=some a) then [] else [(p,a)]):=by
      unfold aW
      rw [show W.take (j+1)=W.take j++ [(p,a)] by rw [List.take_add_one,hr];rfl,pz]
    have hlk1:∀(o:List VO) (tl:bA),cP Try.prog ⟨(kN lk lk2 es es2 ck ck2 (xC (aW W H j)) (tC (aW W H j))).objs++o,tl⟩ 73 (.map 1) (dg p.1 p.2) false=some (.agg a.cells):=fun o tl=>by
      rw [dx (id:=1) rfl,h.look,hf1];rfl
    have hgl:(aW W H j).length≤2000000:=by
      have:=jV (W.take j) H
      have:=List.length_take_le j W
      unfold aW;omega
    have hend:∀o,rQ 22 0 (fun j:Nat=>W.length-j) (fun j=>ge (b7 W) j) (fun j=>kN lk lk2 es es2 ck ck2 (xC (aW W H j)) (tC (aW W H j))) (fun j=>j≤W.length) 9 1 j (fun e vs T=>e= .normal∧vs=ge (b7 W) (b7 W).length∧T=kN lk lk2 es es2 ck ck2 (xC (br W H)) (tC (br W H))) .normal (ge (b7 W) (IntKind.wrap .i64 ((j:Int)+1))) ⟨(kN lk lk2 es es2 ck ck2 (xC (aW W H (j+1))) (tC (aW W H (j+1)))).objs++o,tC (aW W H (j+1))⟩ [] 22:=fun o=>by
      refine ⟨rfl,rfl,j+1,hlt,by show W.length-(j+1)<W.length-j;omega, .inr ⟨A3 h h2 _ o, ?_⟩⟩
      rw [gA (by omega)]
      exact qk _ _
    have happ:decide (aH H p=some a)=false→(∀objs:List VO,bp Try.prog ac 0 ⟨objs,tC (aW W H j)⟩ (.call ⟨.builtin .append, #[.tmp 35, .tmp 40], #[48,48]⟩) [(35,xC (aW W H j)),(40, .vec 8 [bd (p,a)] .full)] (.vec 8 ((aW W H (j+1)).map bd) (.tail 0 (aW W H (j+1)).length)) ⟨objs,tC (aW W H (j+1))⟩)∧TV.vec 8 ((aW W H (j+1)).map bd) (.tail 0 (aW W H (j+1)).length)=xC (aW W H (j+1)):=fun hd=>by
      rw [hd,cond_false] at htk
      rw [htk]
      exact ⟨fun objs=>EL objs _ (p,a) hgl,(tJ _ _).symm⟩
    cases hfh:aH H p with
    | some b=>
      have hbp:=h2.okp _ (cE hfh)
      have hdd:decide (aH H p=some a)=decide (a=b):=by
        rw [hfh]
        exact decide_eq_decide.2 ⟨fun e=>(Option.some.inj e).symm,fun e=>by rw [e]⟩
      refine bq ae aa ag (hL _ (EM _) _ _) (EI lk lk2 es es2 ck ck2 (b7 W) (xC (aW W H j)) ((aW W H (j+1)).map bd) (.tail 0 (aW W H (j+1)).length) (tC (aW W H j)) (tC (aW W H (j+1))) j p.1 p.2 a b (decide (a=b)) _) (bB (decide_eq_true (by omega)) ⟨np hel,rfl,iJ (hlk1 [_] _),⟨(dx (id:=2) rfl true).trans (by rw [io h2 hfh];rfl)⟩,⟨a,b,⟨rfl,rfl⟩,⟨Nat.le_trans hap (by decide),Nat.le_trans hbp (by decide)⟩,rfl⟩, ?_⟩)
      rw [←hdd]
      refine aA (fun hd=> ?_) (fun hd=> ?_)
      · have hd:decide (aH H p=some a)=false:=by simpa using hd
        obtain ⟨k1,k2⟩:=happ hd
        refine ⟨⟨a,rfl,hap⟩,⟨rfl,rfl,rfl,trivial⟩,k1 _, ?_⟩
        rw [k2]
        exact hend [_,_,_,_]
      · have hd:decide (aH H p=some a)=true:=by simpa using hd
        have htk2:=htk
        rw [hd,cond_true,List.append_nil] at htk2
        have:=hend [.cells (aw p), .cells (aw p), .cells a.cells, .cells b.cells]
        rw [htk2] at this
        exact this
    | none=>
      have hd:decide (aH H p=some a)=false:=decide_eq_false (by rw [hfh];exact fun h=>by cases h)
      obtain ⟨k1,k2⟩:=happ hd
      refine bq ae aa ag (hL _ wT _ _) (yO lk lk2 es es2 ck ck2 (b7 W) (xC (aW W H j)) ((aW W H (j+1)).map bd) (.tail 0 (aW W H (j+1)).length) (tC (aW W H j)) (tC (aW W H (j+1))) j p.1 p.2 a _) (bB (decide_eq_true (by omega)) ⟨np hel,rfl,iJ (hlk1 [_] _),⟨(dx (id:=2) rfl true).trans (by rw [ip h2 hfh])⟩,⟨a,rfl,hap⟩,⟨rfl,rfl,rfl,trivial⟩,k1 _, ?_⟩)
      rw [k2]
      exact hend [_,_,_,_]
theorem EN (h:TbOk W lk es ck) (h2:TbOk H lk2 es2 ck2):VCx Try.prog ac 0 cj [.yld 7, .ptr 5 0] ⟨tG lk lk2 es es2 ck ck2 gz, []⟩ fun x T' =>x= .tup []∧T' =⟨tG lk lk2 es es2 ck ck2 (xC (br W H)),tC (br W H)⟩:=by
 have hS:aT Try.prog ac (aD [(tq,vt),(rf,vu)]):=aQ fun p hp=>by
  rcases List.mem_cons.1 hp with rfl | hp;exact yP
  obtain rfl:=List.mem_singleton.1 hp;exact yQ
 have hfew:=h.few
 refine VCx.keepQ 8 1 (Nat.le_refl _) (Nat.zero_le _) (am ae aa hS (CJ h h2) (GC lk lk2 es es2 ck ck2 (b7 W) (xC (br W H)) (tC (br W H)) _) ⟨⟨⟨rfl,rfl,rfl⟩,rfl,h.mk_ok⟩,fun L hL=> ?_⟩)
 obtain ⟨l,hl,rfl⟩:=hL
 have hk:nM (l.map aw)=b7 W:=by unfold nM b7;rw [tH,rp h hl]
 have hln:l.length≤1000:=by rw [hl.length_eq,h.esP.length_eq];simpa using hfew
 refine ⟨⟨l,rfl,hln⟩,rfl,⟨rfl,rfl,rfl,trivial,rfl,rfl, ?_⟩,rfl, ?_⟩
 ·rw [hk]
 ·have e:=h.ren (an 8) (an 1)
  have e1:=h2.ren (an 8) (an 1)
  have e2:(tC (br W H)).take 1=tC (br W H):=List.take_of_length_le (kO _)
  unfold kP at e e1
  simp only [VT.keep,tG,List.cons_append,List.nil_append,List.take_succ_cons,List.take_zero,List.map_cons,List.map_nil,e,e1,e2,kP]
  simp only [VO.ren,av,pA]
  rfl
theorem CL (x:TV) (tl:bA):∀ro ys T K,A2 x tl ro ys T K→VCx Try.prog ac ro cj ys T K:=by
 intro ro ys T K hw
 unfold A2 at hw
 split at hw
 ·obtain ⟨⟨rfl,W,H,lk,lk2,es,es2,ck,ck2,rfl,⟨h,h2⟩,rfl,rfl⟩,hk⟩:=hw
  refine (EN h h2).mono ?_
  rintro x T' ⟨rfl,rfl⟩
  exact hk
 ·exact hw.elim
theorem wU (l:List ak) (f g:Nat→Option Nat):TVle ((xC l).ren f g) (.vec 8 (l.map bd) .none):=by
 cases l with
 | nil=>exact TVle.nil 8
 | cons p l=>
  simp only [xC,TV.ren,dR]
  exact TVle.vec 8 _ _
theorem yU {T:VT} (h:RibT W H T):VCx Try.prog ac 0 nO [.ptr 0 0] T fun x T' =>x= .vec 8 ((br W H).map bd) .none∧T' =T:=by
 obtain ⟨lk,lk2,es,es2,ck,ck2,rfl,h1,h2⟩:=h
 refine VCx.toLe (Q:=fun T' =>T' =dh lk lk2 es es2 ck ck2) (VCx.keepQ 3 0 (Nat.le_refl _) (Nat.le_refl _) (am ae aa (aQ fun p hp=>by obtain rfl:=List.mem_singleton.1 hp;exact CL _ _) ah (GA lk lk2 es es2 ck ck2 (xC (br W H)) (tC (br W H)) _) ⟨⟨rfl,W,H,lk,lk2,es,es2,ck,ck2,rfl,⟨h1,h2⟩,rfl,rfl⟩,wU _ _ _, ?_⟩))
 exact oy h1 h2 _ _
theorem EO (L:Bs):∀ro ys T K,Bq L ro ys T K→VCx Try.prog ac ro nN ys T K:=by
 intro ro ys T K hw
 unfold Bq at hw
 split at hw
 ·obtain ⟨⟨rfl,W,H,h,rfl⟩,hk⟩:=hw
  refine (yR h).mono ?_
  rintro x T' ⟨rfl,rfl⟩
  exact hk
 ·exact hw.elim
theorem EP (L:Bs):∀ro ys T K,Br L ro ys T K→VCx Try.prog ac ro nO ys T K:=by
 intro ro ys T K hw
 unfold Br at hw
 split at hw
 ·obtain ⟨⟨rfl,W,H,h,rfl⟩,hk⟩:=hw
  refine (yU h).mono ?_
  rintro x T' ⟨rfl,rfl⟩
  exact hk
 ·exact hw.elim
def iK (W H:List ak):Bool:=decide ((bx W H).length+(br W H).length=0)
theorem EQ {T:VT} (h:RibT W H T):VCx Try.prog ac 0 yM [.ptr 0 0] T fun x T' =>x= .val (.bool (iK W H))∧T' =T:=by
 have h' :=h
 obtain ⟨lk,lk2,es,es2,ck,ck2,rfl,h1,h2⟩:=h
 have hS:aT Try.prog ac (aD [(nN,Bq ((bx W H).map aw)),(nO,Br ((br W H).map bd))]):=aQ fun p hp=>by
  rcases List.mem_cons.1 hp with rfl | hp;exact EO _
  obtain rfl:=List.mem_singleton.1 hp;exact EP _
 have g1:=jU W H
 have g2:=jV W H
 have f1:=h1.few
 have f2:=h2.few
 refine VCx.keepQ 3 0 (Nat.le_refl _) (Nat.le_refl _) (am ae aa hS ah (GD lk lk2 es es2 ck ck2 _ _ _) ⟨⟨rfl,W,H,h',rfl⟩,⟨rfl,W,H,h',rfl⟩, ?_,oy h1 h2 [] []⟩)
 rw [List.length_map,List.length_map,nm (by omega) (by omega)]
 show TV.val (.bool _)=_
 congr 2
 unfold iK
 have e0:ax BinOp.eql (aj (Value.int IntKind.i64 ((bx W H).length+(br W H).length:Int)) (Value.int IntKind.i64 0))=decide (((bx W H).length+(br W H).length:Int)=0):=by
  simp [ax,aj,bN,Bool.beq_eq_decide_eq]
 rw [e0]
 by_cases e:(bx W H).length+(br W H).length=0
 ·rw [decide_eq_true e,decide_eq_true (by omega)]
 ·rw [decide_eq_false e,decide_eq_false (by omega)]
end
end
section

theorem ER (a k:Nat) (ha:a<2^32) (hk:k≤32):a&&&(2^32-2^k)=a/2^k*2^k:=by
  have e:2^32-2^k=(2^(32-k)-1)<<<k:=by
    rw [Nat.shiftLeft_eq,Nat.sub_mul,←Nat.pow_add,Nat.one_mul]
    congr 2;omega
  have hlt:a>>>k<2^(32-k):=by
    rw [Nat.shiftRight_eq_div_pow]
    apply Nat.div_lt_of_lt_mul
    rw [←Nat.pow_add]
    have:k+(32-k)=32:=by omega
    rw [this];exact ha
  have h2:a/2^k*2^k=((a>>>k)&&&(2^(32-k)-1))<<<k:=by
    rw [Nat.and_two_pow_sub_one_eq_mod,Nat.mod_eq_of_lt hlt,Nat.shiftRight_eq_div_pow,Nat.shiftLeft_eq]
  rw [h2,e]
  apply Nat.eq_of_testBit_eq
  intro i
  simp only [Nat.testBit_and,Nat.testBit_shiftLeft,Nat.testBit_shiftRight]
  by_cases h:k≤i
  · have:k+(i-k)=i:=by omega
    simp [h,this]
  · simp [h]

def cl (n:Int):Nat:=if n<0 then 0 else if 32<n then 32 else n.toNat
theorem wV (n:Int):cl n≤32:=by unfold cl;split;omega;split<;>omega
theorem GE (n:Int):cl (cl n:Int)=cl n:=by
 have:=wV n
 generalize cl n=k at*
 unfold cl
 rw [if_neg (by omega),if_neg (by omega)];omega
def jW (n:Int):Nat:=2^32-2^(32-cl n)
theorem Bu (n:Int):jW n<4294967296:=by
 have:0<2^(32-cl n):=Nat.two_pow_pos _
 unfold jW;omega
def hd (a:Nat) (n:Int):Nat:=a/2^(32-cl n)*2^(32-cl n)
theorem ES (a:Nat) (n:Int) (ha:a<4294967296):a&&&jW n=hd a n:=ER a _ ha (by omega)
theorem jw (n:Int):(n<0∧cl n=0)∨(32<n∧cl n=32)∨(0≤n∧n≤32∧(cl n:Int)=n):=by
 unfold cl
 by_cases h0:n<0
 ·exact .inl ⟨h0,by simp [h0]⟩
 ·by_cases h1:32<n
  ·exact .inr (.inl ⟨h1,by simp [h0,h1]⟩)
  ·exact .inr (.inr ⟨by omega,by omega,by simp [h0,h1];omega⟩)

def tl (b:Nat) (m:Int):Nat:=hd b m ||| (4294967295-jW m)
theorem mO (k i:Nat) (hk:k≤32):(2^32-2^(32-k)).testBit i=(decide (32-k≤i)&&decide (i<32)):=by
 have e:2^32-2^(32-k)=(2^k-1)<<<(32-k):=by
  rw [Nat.shiftLeft_eq,Nat.sub_mul,←Nat.pow_add,Nat.one_mul]
  congr 2;omega
 rw [e,Nat.testBit_shiftLeft,Nat.testBit_two_pow_sub_one]
 by_cases h:32-k≤i
 ·simp [h];omega
 ·simp [h]
theorem CM (k:Nat) (hk:k<32):(2^32-2^(32-k)) ||| 2^(31-k)=2^32-2^(32-(k+1)):=by
 apply Nat.eq_of_testBit_eq
 intro i
 rw [Nat.testBit_or,mO k i (by omega),mO (k+1) i (by omega),Nat.testBit_two_pow]
 rw [Bool.eq_iff_iff]
 simp
 omega
end
set_option maxRecDepth 100000
--PfxG
section
open Go.RowKit

def hP (a:Nat) (n:Int):Bool:=((a:Int)==(hd a n:Int))&&(n==(cl n:Int))
end
--PfxR
section
open Go.RowKit

theorem CN {k:IntKind} {a b:Int} (h:a=b):Value.int k a= .int k b:=by rw [h]
theorem A4 (k:Nat) (hk:k<32):bits .or .u32 ((4294967296-2^(32-k):Nat):Int) ((2:Int)^(31-k)%4294967296)=((2^32-2^(32-(k+1)):Nat):Int):=by
 have h1:2^(31-k)≤2^31:=Nat.pow_le_pow_right (by decide) (by omega)
 have h0:0<2^(32-k):=Nat.two_pow_pos _
 have e:((2:Int)^(31-k)%4294967296)=((2^(31-k):Nat):Int):=by
  have:((2:Int)^(31-k))=((2^(31-k):Nat):Int):=by simp
  rw [this]
  generalize 2^(31-k)=x at*
  omega
 rw [e,u32_or_nat _ _ (by omega) (by omega),←CM k hk]
set_option maxHeartbeats 400000 in
theorem GF (n:Int) (hn:-9223372036854775808≤n∧n≤9223372036854775807) (w:World):
    Calls Try.prog 55 #[.int .i64 n] w fun e w' =>e= .returned (.int .u32 (jW n))∧w=w' :=by
  go_enter Try.func55,Try.ntmps55
  go_wp2
  go_loop [3,4] (fun m i=>∃k:Nat,k≤cl n∧i= .int .i64 k∧m= .int .u32 ((2^32-2^(32-k):Nat):Int)) (fun _ i=>32-(intOf i).toNat)
  case atStart=>exact ⟨0,Nat.zero_le _,rfl,rfl⟩
  case round=>
    obtain ⟨k,hk,rfl,rfl⟩:=hrel
    have hcl:=wV n
    by_cases hlt:k<cl n
    · have h1:(k:Int)<n:=by rcases jw n with ⟨_,h⟩ | ⟨_,h⟩ | ⟨_,_,h⟩<;>omega
      have h2:(k:Int)<32:=by omega
      go_wp2
      go_round
      case rel=>exact ⟨k+1,by omega,by go_num,CN (A4 k (by omega))⟩
      case measure=>simp [intOf];omega
    · obtain rfl:k=cl n:=by omega
      have e1:=Lib.hid (show (2^32-2^(32-cl n):Nat)=jW n from rfl)
      by_cases h1:(cl n:Int)<n
      · have h2:¬(cl n:Int)<32:=by rcases jw n with ⟨_,h⟩ | ⟨_,h⟩ | ⟨_,_,h⟩<;>omega
        go_wp2
        go_ret
        exact ⟨rfl,rfl⟩
      · go_wp2
        go_ret
        exact ⟨rfl,rfl⟩

theorem yV (a:Nat) (n:Int) (ha:a<4294967296):(bits .andNot .u32 (a:Int) (jW n:Int)==(0:Int))=((a:Int)==(hd a n:Int)):=by
 rw [u32_andNot_nat a (jW n) ha (Bu n)]
 have hk:2^(32-cl n)≤2^32:=Nat.pow_le_pow_right (by decide) (by omega)
 have h0:0<2^(32-cl n):=Nat.two_pow_pos _
 have e:4294967295-jW n=2^(32-cl n)-1:=by unfold jW;omega
 rw [e,Nat.and_two_pow_sub_one_eq_mod]
 have h1:=Nat.div_add_mod a (2^(32-cl n))
 rw [Nat.mul_comm] at h1
 unfold hd
 rw [Bool.eq_iff_iff]
 simp only [beq_iff_eq]
 omega

set_option maxHeartbeats 400000 in
theorem GG (a:Nat) (ha:a<4294967296) (n:Int) (hn:-9223372036854775808≤n∧n≤9223372036854775807) (w:World):
  Calls Try.prog 69 #[.agg #[.int .u32 a, .int .i64 n]] w fun e w' =>e= .returned (.bool (hP a n))∧Gr w w' :=by
 have HM:=Lib.hid fun W=>GF n hn W
 have e1:=Lib.hid (yV a n ha)
 have d0:=iL w [.int .u32 a, .int .i64 n] 29 0 _ rfl
 have d1:=iL w [.int .u32 a, .int .i64 n] 29 1 _ rfl
 have gw:=(Gr.refl w).alloc (.cells #[.int .u32 a, .int .i64 n] 29)
 clear ha hn
 by_cases h0:0≤n
 ·by_cases h1:n≤32
  ·have e2:=Lib.hid (show hP a n=((a:Int)==(hd a n:Int)) by
    unfold hP
    rcases jw n with ⟨h,_⟩ | ⟨h,_⟩ | ⟨_,_,h⟩
    ·omega
    ·omega
    ·rw [h];simp)
   have h0' :decide ((0:Int)≤n)=true:=by simpa using h0
   have h1' :decide (n≤(32:Int))=true:=by simpa using h1
   go_enter Try.func69,Try.ntmps69
   go_wp2_with fail
   generalize w.alloc (.cells #[.int .u32 a, .int .i64 n] 29)=W at*
   have hS0:=(Gr.refl (W)).drew
   refine fm [(0,true),(1,true),(2,true),(3,true),(4,true),(5,true),(6,true),(7,true),(8,true),(9,true),(10,true),(11,true),(12,true),(13,false),(14,true),(15,true),(16,true),(17,true)] (Gr W) (by kernel_rfl) (by kernel_rfl) hS0 ?_
   simp only [fk,List.getElem?_toArray,List.getElem?_cons_zero,List.getElem?_cons_succ]
   repeat (first
    | (refine gV (by rfl) ?_;(try simp only [Act.put,List.setIfInBounds_toArray,List.set_cons_zero,List.set_cons_succ]))
    | (refine gW (by rfl) ?_;apply Exists.intro;refine ⟨fun w' hSw=> ?_, ?_⟩;(focus ((try dsimp only at hSw);go_simp;first | done | with_reducible rfl));(try simp only [Act.put,List.setIfInBounds_toArray,List.set_cons_zero,List.set_cons_succ]))
    | (refine fU (by rfl) (fun K hK=> ?_);go_simp;(first | (go_at_call 55;refine (HM.out _).mono ?_;rintro e w2 ⟨rfl,rfl⟩));refine hK _ _ (by first | exact Gr.trans (by assumption) hb2 | assumption | exact Gr.alloc (by assumption) _) (fun hSn=> ?_);clear hK K;(try simp only [Act.put,List.setIfInBounds_toArray,List.set_cons_zero,List.set_cons_succ]))
    | (refine fU (by rfl) (fun K hK=> ?_);go_simp;refine hK _ _ (by first | exact Gr.trans (by assumption) hb2 | assumption | exact Gr.alloc (by assumption) _) (fun hSn=> ?_);clear hK K;(try simp only [Act.put,List.setIfInBounds_toArray,List.set_cons_zero,List.set_cons_succ])))
   refine iz ?_
   go_wp2
   go_ret
   exact ⟨by rw [e2.out,←e1.out];rfl,gw.drew⟩
  ·have e2:=Lib.hid (show hP a n=false by
    unfold hP
    rcases jw n with ⟨h,_⟩ | ⟨h,h2⟩ | ⟨_,_,h⟩
    ·omega
    ·rw [h2];simp;omega
    ·omega)
   have h0' :decide ((0:Int)≤n)=true:=by simpa using h0
   have h1' :decide (n≤(32:Int))=false:=by simpa using h1
   go_enter Try.func69,Try.ntmps69
   go_wp2_with fail
   generalize w.alloc (.cells #[.int .u32 a, .int .i64 n] 29)=W at*
   have hS0:=(Gr.refl (W)).drew
   refine fm [(0,true),(1,true),(2,true),(3,true),(4,true),(5,true),(6,true),(7,true),(8,true),(9,true),(10,true),(11,true),(12,true),(13,false),(14,true),(15,true),(16,true),(17,true)] (Gr W) (by kernel_rfl) (by kernel_rfl) hS0 ?_
   simp only [fk,List.getElem?_toArray,List.getElem?_cons_zero,List.getElem?_cons_succ]
   repeat (first
    | (refine gV (by rfl) ?_;(try simp only [Act.put,List.setIfInBounds_toArray,List.set_cons_zero,List.set_cons_succ]))
    | (refine gW (by rfl) ?_;apply Exists.intro;refine ⟨fun w' hSw=> ?_, ?_⟩;(focus ((try dsimp only at hSw);go_simp;first | done | with_reducible rfl));(try simp only [Act.put,List.setIfInBounds_toArray,List.set_cons_zero,List.set_cons_succ]))
    | (refine fU (by rfl) (fun K hK=> ?_);go_simp;refine hK _ _ (by first | exact Gr.trans (by assumption) hb2 | assumption | exact Gr.alloc (by assumption) _) (fun hSn=> ?_);clear hK K;(try simp only [Act.put,List.setIfInBounds_toArray,List.set_cons_zero,List.set_cons_succ])))
   refine iz ?_
   go_wp2
   go_ret
   exact ⟨by rw [e2.out];rfl,gw.drew⟩
 ·have e2:=Lib.hid (show hP a n=false by
   unfold hP
   rcases jw n with ⟨h,h2⟩ | ⟨h,h2⟩ | ⟨_,_,h⟩
   ·rw [h2];simp;omega
   ·omega
   ·omega)
  have h0' :decide ((0:Int)≤n)=false:=by simpa using h0
  go_enter Try.func69,Try.ntmps69
  go_wp2_with fail
  generalize w.alloc (.cells #[.int .u32 a, .int .i64 n] 29)=W at*
  have hS0:=(Gr.refl (W)).drew
  refine fm [(0,true),(1,true),(2,true),(3,true),(4,true),(5,true),(6,true),(7,true),(8,true),(9,true),(10,true),(11,true),(12,true),(13,false),(14,true),(15,true),(16,true),(17,true)] (Gr W) (by kernel_rfl) (by kernel_rfl) hS0 ?_
  simp only [fk,List.getElem?_toArray,List.getElem?_cons_zero,List.getElem?_cons_succ]
  repeat (first
   | (refine gV (by rfl) ?_;(try simp only [Act.put,List.setIfInBounds_toArray,List.set_cons_zero,List.set_cons_succ]))
   | (refine gW (by rfl) ?_;apply Exists.intro;refine ⟨fun w' hSw=> ?_, ?_⟩;(focus ((try dsimp only at hSw);go_simp;first | done | with_reducible rfl));(try simp only [Act.put,List.setIfInBounds_toArray,List.set_cons_zero,List.set_cons_succ]))
   | (refine fU (by rfl) (fun K hK=> ?_);go_simp;refine hK _ _ (by first | exact Gr.trans (by assumption) hb2 | assumption | exact Gr.alloc (by assumption) _) (fun hSn=> ?_);clear hK K;(try simp only [Act.put,List.setIfInBounds_toArray,List.set_cons_zero,List.set_cons_succ])))
  refine iz ?_
  go_wp2
  go_ret
  exact ⟨by rw [e2.out];rfl,gw.drew⟩

end
--PRLaw
section
open Go.RowKit Go.Sort Go.Shelf

instance (x y:Px):Decidable (bY x y):=by unfold bY;infer_instance
end
--Pfx4
section
open Go.RowKit

set_option maxHeartbeats 400000 in
theorem Hy (a n b m:Int) (w:World):
    Calls Try.prog 102 #[.agg #[.int .u32 a, .int .i64 n], .agg #[.int .u32 b, .int .i64 m]] w fun e w' =>e= .returned (.int .i64 (dG a n b m))∧Gr w w' :=by
  have gw:=((Gr.refl w).alloc (.cells #[.int .u32 a, .int .i64 n] 29)).alloc (.cells #[.int .u32 b, .int .i64 m] 29)
  by_cases h0:a=b
  · subst h0
    have f0:¬a<a:=by omega
    have f0' :(a==a)=true:=by simp
    by_cases h1:n=m
    · subst h1
      have e1:=Lib.hid (show dG a n a n=0 by simp [dG,il,fg])
      have f1' :(n==n)=true:=by simp
      go_enter Try.func102,Try.ntmps102
      go_wp2
      go_ret
      exact ⟨by rw [e1.out];rfl,gw⟩
    · have f1' :(n==m)=false:=by simpa using h1
      rcases Int.lt_trichotomy n m with h2 | h2 | h2
      · have e1:=Lib.hid (show dG a n a m=-1 by simp [dG,il,fg,h2])
        clear h1
        go_enter Try.func102,Try.ntmps102
        go_wp2
        go_ret
        exact ⟨by rw [e1.out];rfl,gw⟩
      · exact absurd h2 h1
      · have h3:¬n<m:=by omega
        have e1:=Lib.hid (show dG a n a m=1 by simp [dG,il,fg,h2,h3])
        clear h1
        go_enter Try.func102,Try.ntmps102
        go_wp2
        go_ret
        exact ⟨by rw [e1.out];rfl,gw⟩
  · have f0' :(a==b)=false:=by simpa using h0
    rcases Int.lt_trichotomy a b with h2 | h2 | h2
    · have e1:=Lib.hid (show dG a n b m=-1 by simp [dG,il,fg,h2])
      clear h0
      go_enter Try.func102,Try.ntmps102
      go_wp2
      go_ret
      exact ⟨by rw [e1.out];rfl,gw⟩
    · exact absurd h2 h0
    · have h3:¬a<b:=by omega
      have e1:=Lib.hid (show dG a n b m=1 by simp [dG,il,fg,h2,h3])
      clear h0
      go_enter Try.func102,Try.ntmps102
      go_wp2
      go_ret
      exact ⟨by rw [e1.out];rfl,gw⟩
end
--PRRef
section
open Go.RowKit

theorem GH (a n b m:Int):VCalls Try.prog 102 [.agg (jt a n), .agg (jt b m)] ⟨[], []⟩ fun x T' =>x= .val (.int .i64 (dG a n b m))∧T' =⟨[], []⟩:=
 VCalls.of_grT (us:= [.agg #[.int .u32 a, .int .i64 n], .agg #[.int .u32 b, .int .i64 m]]) rfl (fun w=>Hy a n b m w) _
end
section
open Go.RowKit
set_option maxRecDepth 100000

def gB (a n:Int):Prop:=(0≤a∧a<4294967296)∧(-9223372036854775808≤n∧n≤9223372036854775807)
def ET (l:List TV) (ok:Bool):Prop:=∃(p:Px) (a:AtV) (g:Bool),l=ei p.1 p.2 a g∧gB p.1 p.2∧a.p.length≤9223372036854775807∧ok=gu p a g
def ap (r:ak):List TV:= [.val (.int .u32 r.1.1), .val (.int .i64 r.1.2)]++r.2.cells
def bM (W:List ak):Prop:=W.length≤1000∧∀r∈W,r.2.p.length≤2000000
def tK (L:Bs) (a n:Int) (y:AtV) (b:Bool):Prop:=∃W:List ak,L=W.map ap∧bM W∧y=bR W (a,n)∧b=bo W (a,n)
def wW (L:Bs) (a n:Int) (R:Bs):Prop:=∃W:List ak,L=W.map ap∧bM W∧R=(aC W (a,n)).map ap
def tL (L:Bs) (l:List TV) (R:Bs):Prop:=∃(W:List ak) (r:ak),L=W.map ap∧l=ap r∧bM W∧r.2.p.length≤2000000∧R=(cc W r).map ap
theorem yW (n:Int):nL n=(cl n:Int):=by
 unfold nL cl
 repeat (split<;>try omega)
theorem GI (n:Nat) (h:n≤32):s9 (n:Int)=(jW (n:Int):Int):=by
 have e:cl (n:Int)=n:=by
  unfold cl
  split
  ·omega
  ·split<;>omega
 have h1:(32-(n:Int)).toNat=32-n:=by omega
 have h2:2^(32-n)≤2^32:=Nat.pow_le_pow_right (by decide) (by omega)
 unfold s9 jW
 rw [e,h1]
 have h3:((2^32-2^(32-n):Nat):Int)=4294967296-((2^(32-n):Nat):Int):=by omega
 rw [h3]
 simp
theorem CO (a:Nat) (n:Int) (ha:a<4294967296):bits .and .u32 (a:Int) (jW n:Int)=(hd a n:Int):=by
 rw [u32_and_nat a (jW n) ha (Bu n),ES a n ha]
theorem CP (a:Nat) (ha:a<4294967296) (n:Int):hP a n=gt (a:Int) n:=by
 have h:=CO a (cl n:Int) ha
 have hc:=wV n
 have e1:tb (a:Int) n=(hd a n:Int):=by
  unfold tb Hb
  rw [yW,GI _ hc]
  have e2:hd a (cl n:Int)=hd a n:=by unfold hd;rw [GE]
  rw [e2] at h
  exact h
 unfold hP gt
 rw [e1,yW]
 congr 1
end

end Go.Proofs.Ytnfplefcghadfaa